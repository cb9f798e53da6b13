/- Joined texts: A6, A13, A7, A14, A15, A16, A8, A18, A17, A19, A20, A21, A23, A24, A25, A26, S10, A27, C2, A28, A29, A30, A31, X7, T4, X8, N1, C4. -/
import Derived.Test.YtedaadaaibofaaaGreatProg
import Derived.KernelRfl
import Derived.Test.YtedaadaaibofaaaGreatV1
import Derived.Test.YtedaadaaibofaaaGreatV2
import Derived.Test.YtedaadaaibofaaaGreatV3
import Derived.Test.YtedaadaaibofaaaGreatV4
set_option maxHeartbeats 1000000
set_option linter.unusedVariables false
set_option linter.unusedSimpArgs false
namespace Go.Proofs.YtedaadaaibofaaaGreat.Am
variable {I:Nat->Int->Prop}

set_option maxHeartbeats 4000000 in
theorem wi4{s:List wc}{run:Chg->List Data->Res}{deep:Int}(hs:SchG s)(hr:wdo I s run (IntKind.i64.wrap (deep+1))){n:Nat}(hn:n<s.length)(y:Way)(key wth:List Val)(gone:Bool)(wv:Ce)(hw:With gone wv wth y.cols.length)(hwv:∀v∈wth,zq v=true)
 (hc:InR y.cols s[n].cols.length) (hcl:y.cols.length<=34359738368) (db:List Data) (h:DbG I s db):
 Pure Tryz.prog 365 [.c (.fz (s.map ja)),.c (.fz (db.map wa)),.c (.int .i64 (n:Int)),.agg (zdf y),.c (.fz (key.map encV)),.c wv,.c (.bool gone),.c (.int .i64 deep)] (resV (z8 run n y key wth gone (j3 (jm db n) y.cols key) db)):=by
 refine yap [11] zf2 λG hS hA=>?_;clear hA;have hn2:n<db.length:=by rw[h.len];exact hn
 have hR:=h.rows n hn hn2;have c1:=zey db[n] y.cols key (yaj hR.len gb) hcl (λr hr2=>by rw[(hR.fit r hr2).1];exact hc);rw[je hn2];have hil:(j3 db[n].rows y.cols key).length<=60:=by
  rw[j3,yae];exact yaj (ybt _ _) hR.len
 generalize j3 db[n].rows y.cols key=ids at c1 hil⊢;have hwo:∀(n:Nat),∀x∈(AV.c wv).all,Old n x:=λn=>hw.old;repeat' first|refine X ?_|((first|apply yG|apply yH|apply yI);exact rfl;(first|exact yax wa rfl hn2))|refine yaC (c1) ?_|exact yaF|refine yaS ?_ ?_<;>intro _
 clear c1
 refine Go.keep [0,1,2,4,5,6,7,11,18,19] (Go.loops (I:=λm fr V=>∃(i:Nat) (k:Int) (db':List Data),m=ids.length-i/\i<=ids.length/\k=i/\(DbG I s db'/\z8 run n y key wth gone ids db=z8 run n y key wth gone (ids.drop i) db')/\
  fr=[(0,.c (.fz (s.map ja))),(1,.c (.fz (db'.map wa))),(2,.c (.int .i64 (n:Int))),(4,.c (.fz (key.map encV))),(5,.c wv),(6,.c (.bool gone)),(7,.c (.int .i64 deep)),(11,.c (.fp (zdf y))),(18,.c (.fz (ids.map encI))),(19,.c (.int .i64 k))]/\V=E G []) ?_ _ _ _ ⟨0,_,db,rfl,yac _,rfl,⟨h,rfl⟩,rfl,rfl⟩)
 rintro m fr V ⟨i,k,db',rfl,hi,hk,⟨hdb,hst⟩,rfl,rfl⟩ hrec;by_cases hlt:i<ids.length
 ·have hn3:n<db'.length:=by rw[hdb.len];exact hn
  have hR3:=hdb.rows n hn hn3;rw[yab hlt,z8,je hn3]at hst;have c2:=jau db'[n] ids[i] (yaj hR3.len gb);rcases jn db'[n].rows ids[i]with⟨hx1,hx2⟩|⟨j,hj,hx1,hx2⟩
  ·rw[hx1]at c2;rw[hx2]at hst;repeat' first|refine X ?_|((first|apply yG|apply yH|apply yI);exact rfl;(first|exact yax encI hk hlt|exact yax wa rfl hn3))|refine yaC (c2) ?_|exact yaF|refine yaS ?_ ?_<;>intro _
   exact Go.keep [0,1,2,4,5,6,7,11,18,19] (hrec _ _ _ O ⟨i+1,_,db',rfl,hlt,jc hk O,⟨hdb,hst⟩,rfl,rfl⟩)
  ·rw[hx1]at c2;rw[hx2]at hst;simp only at hst;have hfit:=hR3.fit _ (yaa hj);have hrow:jac (jm db' n) ids[i]=some db'[n].rows[j]:=by rw[je hn3];exact hx2
   have hidx:db'[n].rows[j].id=ids[i]:=(zac hrow).2;have c3:=ja9 y.cols db'[n].rows[j].vals hcl (by rw[hfit.1];exact hc);have c4:=wa8 (keyF y.cols db'[n].rows[j].vals) key (by rw[wat];exact hcl);rw[hasB]at hst
   cases hwh:w6 y.cols db'[n].rows[j].vals
   ·rw[hwh,ybc,if_neg yai]at hst;rw[hwh]at c3;repeat' first|refine X ?_|((first|apply yG|apply yH|apply yI);exact rfl;(first|exact yax encI hk hlt|exact yax wa rfl hn3|exact yax wb rfl hj))|refine yaC (c2) ?_|refine yaC (c3) ?_|exact yaF|refine yaS ?_ ?_<;>intro _
    exact Go.keep [0,1,2,4,5,6,7,11,18,19] (hrec _ _ _ O ⟨i+1,_,db',rfl,hlt,jc hk O,⟨hdb,hst⟩,rfl,rfl⟩)
   ·rw[hwh,yaxq]at hst;rw[hwh]at c3
    cases hke:(keyF y.cols db'[n].rows[j].vals==key)
    ·rw[hke,if_neg yai]at hst;rw[hke]at c4;generalize keyF y.cols db'[n].rows[j].vals=kf at c3 c4;repeat' first|refine X ?_|((first|apply yG|apply yH|apply yI);exact rfl;(first|exact yax encI hk hlt|exact yax wa rfl hn3|exact yax wb rfl hj))|refine yaC (c2) ?_|refine yaC (c3) ?_|refine yaC (c4) ?_|exact yaF|refine yaS ?_ ?_<;>intro _
     exact Go.keep [0,1,2,4,5,6,7,11,18,19] (hrec _ _ _ O ⟨i+1,_,db',rfl,hlt,jc hk O,⟨hdb,hst⟩,rfl,rfl⟩)
    ·rw[hke,if_pos rfl]at hst;rw[hke]at c4;generalize keyF y.cols db'[n].rows[j].vals=kf at c3 c4;rw[oneF]at hst;by_cases ha0:y.act=0
     ·rw[if_pos ha0]at hst
      cases hwt:y.wait
      ·rw[hwt,if_neg yai,if_neg gb]at hst;repeat' first|refine X ?_|((first|apply yG|apply yH|apply yI);exact rfl;(first|exact yax encI hk hlt|exact yax wa rfl hn3|exact yax wb rfl hj))|refine yaC (c2) ?_|refine yaC (c3) ?_|refine yaC (c4) ?_|exact yaF|refine yaS ?_ ?_<;>intro _
       all_goals first
        |(exfalso;simp_all;done)
        |(rw[hst];exact .ret rfl (Fin.same rfl (zh ([],5) _)))
      ·rw[hwt,if_pos rfl,if_pos rfl]at hst;repeat' first|refine X ?_|((first|apply yG|apply yH|apply yI);exact rfl;(first|exact yax encI hk hlt|exact yax wa rfl hn3|exact yax wb rfl hj))|refine yaC (c2) ?_|refine yaC (c3) ?_|refine yaC (c4) ?_|exact yaF|refine yaS ?_ ?_<;>intro _
       all_goals first
        |(exfalso;simp_all;done)
        |exact Go.keep [0,1,2,4,5,6,7,11,18,19] (hrec _ _ _ O ⟨i+1,_,db',rfl,hlt,jc hk O,⟨hdb,hst⟩,rfl,rfl⟩)
     ·rw[if_neg ha0]at hst;by_cases hgo:y.act=1/\gone=true
      ·obtain⟨ha1,rfl⟩:=hgo;rw[if_pos (show y.act=1/\true=true from⟨ha1,rfl⟩)]at hst;have c5:=hr.del n db'[n].rows[j].id db' db'[n].rows[j] hdb hn (by rw[hidx];exact hrow);have hkp:=hr.keeps (.del n db'[n].rows[j].id) db' hdb hn;generalize run (.del n db'[n].rows[j].id) db'=q at c5 hst hkp;by_cases hq:q.2=0
       ·rw[if_pos hq]at hst;rw[j7 hq]at c5;have hkq:=hkp hq;repeat' first|refine X ?_|((first|apply yG|apply yH|apply yI);exact rfl;(first|exact yax encI hk hlt|exact yax wa rfl hn3|exact yax wb rfl hj))|refine yaC (c2) ?_|refine yaC (c3) ?_|refine yaC (c4) ?_|refine yaC (c5) ?_|exact yaF|refine yaS ?_ ?_<;>intro _
        exact Go.keep [0,1,2,4,5,6,7,11,18,19] (hrec _ _ _ O ⟨i+1,_,q.1,rfl,hlt,jc hk O,⟨hkq,hst⟩,rfl,rfl⟩)
       ·rw[if_neg hq]at hst;obtain⟨e,he⟩:∃e,q.2=e:=⟨_,rfl⟩;rw[he]at hst hq;rw[zab he hq]at c5;rw[hst];repeat' first|refine X ?_|((first|apply yG|apply yH|apply yI);exact rfl;(first|exact yax encI hk hlt|exact yax wa rfl hn3|exact yax wb rfl hj))|refine yaC (c2) ?_|refine yaC (c3) ?_|refine yaC (c4) ?_|refine yaC (c5) ?_|exact yaF|refine yaS ?_ ?_<;>intro _
        exact .ret rfl (Fin.same (wa5 hq).symm (zh ([],e) _))
      ·rw[if_neg hgo]at hst;have hgo2:y.act=1->gone=false:=λh1=>by
        cases gone
        ·rfl
        ·exact absurd ⟨h1,rfl⟩ hgo
       obtain⟨f3,f4⟩:=ze.1 hfit.2;have hco:=zba (casc:=y.act==1) (cs:=y.cols) (w:=wth) hwv f4;have hok:zhm s (.upd n db'[n].rows[j].id (jl (y.act==1) y.cols wth db'[n].rows[j].vals) false):=⟨hn,by rw[hco.1];exact hfit.1,ze.2 ⟨by rw[hco.1];exact f3,hco.2⟩⟩;have c5:=hr.upd n db'[n].rows[j].id (jl (y.act==1) y.cols wth db'[n].rows[j].vals) false db' hdb hok;have hkp:=hr.keeps (.upd n db'[n].rows[j].id (jl (y.act==1) y.cols wth db'[n].rows[j].vals) false) db' hdb hok;have cm:=wby db'[n].rows[j].vals (yaj f3 gb);have hcj:InR y.cols db'[n].rows[j].vals.length:=by rw[hfit.1];exact hc
       generalize run (.upd n db'[n].rows[j].id (jl (y.act==1) y.cols wth db'[n].rows[j].vals) false) db'=q at c5 hst hkp;by_cases ha1:y.act=1
       ·have hg:=hgo2 ha1;subst hg
        cases hw with
        |now hwl=>
        repeat' first|refine X ?_|((first|apply yG|apply yH|apply yI);exact rfl;(first|exact yax encI hk hlt|exact yax wa rfl hn3|exact yax wb rfl hj))|refine yaC (c2) ?_|refine yaC (c3) ?_|refine yaC (c4) ?_|exact yaF|refine yaS ?_ ?_<;>intro _
        all_goals first
         |(exfalso;simp_all;done)
         |skip
        refine .call _ rfl rfl rfl (cm.at0 G) ?_;rintro r _ ⟨v,junk,hjk,rfl,rfl⟩;repeat' first|refine X ?_|exact yaF|refine yaS ?_ ?_<;>intro _
        refine Go.keep [0,1,2,4,5,6,7,11,18,19,21,26,27] (Go.loops (I:=λm fr V=>∃(a:Nat) (ka:Int) (vs:List Val),m=y.cols.length-a/\a<=y.cols.length/\ka=a/\(vs.length=db'[n].rows[j].vals.length/\jl (y.act==1) y.cols wth db'[n].rows[j].vals=jl (y.act==1) (y.cols.drop a) (wth.drop a) vs)/\
         fr=[(0,.c (.fz (s.map ja))),(1,.c (.fz (db'.map wa))),(2,.c (.int .i64 (n:Int))),(4,.c (.fz (key.map encV))),(5,.c (.fz (wth.map encV))),(6,.c (.bool false)),(7,.c (.int .i64 deep)),(11,.c (.fp (zdf y))),(18,.c (.fz (ids.map encI))),(19,.c (.int .i64 k)),(21,.c (.fp (wb db'[n].rows[j]))),(26,.c (vec (G.next+0) v (db'[n].rows[j].vals.map encV) junk)),(27,.c (.int .i64 ka))]/\V=E G [(v,vs.map encV++junk)]) ?_ _ _ _ ⟨0,_,db'[n].rows[j].vals,rfl,yac _,rfl,⟨rfl,rfl⟩,rfl,rfl⟩)
        rintro m fr V ⟨a,ka,vs,rfl,hai,hka,⟨hvl,hsc⟩,rfl,rfl⟩ hreca;by_cases hlta:a<y.cols.length
        ·clear hrec;have hltw:a<wth.length:=O;obtain⟨q1,q2⟩:=hcj _ (yaa hlta);have hcc:y.cols[a]=(y.cols[a].toNat:Int):=O;have hcv:y.cols[a].toNat<vs.length:=O;have hcm:y.cols[a].toNat<(db'[n].rows[j].vals.map encV).length:=by rw[yae];omega
         have hcv2:y.cols[a].toNat<(vs.set y.cols[a].toNat zf).length:=by rw[yaqq];exact hcv
         rw[yab hlta,yab hltw,jl,if_pos (by rw[ha1];rfl),List.tail_cons,List.headD_cons]at hsc;repeat' first|refine X ?_|((first|apply yG|apply yH|apply yI);exact rfl;(first|exact yax encI hka hlta|exact w5 (k:=0) rfl rfl hcc hcm rfl (zak hcv) rfl|exact wj (k:=0) rfl rfl rfl rfl (zak hcv) rfl gz))|exact yaF|refine yaS ?_ ?_<;>intro _
         have hset1:List.set [(v,vs.map encV++junk)] 0 (v,(vs.map encV++junk).set (0+y.cols[a].toNat) (wg (encV vs[y.cols[a].toNat]) 0 [.int .i64 0,.int .i64 0,.str []]))=[(v,(vs.set y.cols[a].toNat zf).map encV++junk)]:=congrArg (λz=>[(v,z)]) (jbz hcv _ zf);rw[hset1];repeat' first|refine X ?_|((first|apply yG|apply yH|apply yI);exact rfl;(first|exact yax encI hka hlta|exact yax encV hka hltw|exact w5 (k:=0) rfl rfl hcc hcm rfl (zak hcv2) rfl|exact wj (k:=0) rfl rfl rfl rfl (zak hcv2) rfl gz))|exact yaF|refine yaS ?_ ?_<;>intro _
         refine Go.keep [0,1,2,4,5,6,7,11,18,19,21,26,27] (hreca _ _ _ O ⟨a+1,_,(vs.set y.cols[a].toNat zf).set y.cols[a].toNat wth[a],rfl,hlta,jc hka O,⟨by rw[yaqq,yaqq];exact hvl,by rw[hsc,List.set_set]⟩,rfl, ?_⟩);exact congrArg (E G) (congrArg (λz=>[(v,z)]) (jbz hcv2 _ wth[a]))
        ·clear hreca;rw[yad (show y.cols.length<=a by omega),jl]at hsc;rw[hsc]at c5;repeat' first|refine X ?_|exact yaF|refine yaS ?_ ?_<;>intro _
         have hvv:vec (G.next+0) v (db'[n].rows[j].vals.map encV) junk=vec (G.next+0) v (vs.map encV) junk:=by rw[vec,vec,yae,yae,hvl]
         refine Go.freezeN (l:=[]) (m:=[(v,vs.map encV++junk)]) (fr':=[(0,.c (.fz (s.map ja))),(1,.c (.fz (db'.map wa))),(2,.c (.int .i64 (n:Int))),(4,.c (.fz (key.map encV))),(5,.c (.fz (wth.map encV))),(6,.c (.bool false)),(7,.c (.int .i64 deep)),(11,.c (.fp (zdf y))),(18,.c (.fz (ids.map encI))),(19,.c (.int .i64 k)),(111,.c (.fz (s.map ja))),(112,.c (.fz (db'.map wa))),(113,.c (.int .i64 (n:Int))),(115,.c (.int .i64 db'[n].rows[j].id)),(116,.c (.fz (vs.map encV))),(118,.c (.int .i64 (IntKind.i64.wrap (deep+1))))]) hS (λb hb=>by cases hb) (yag _)
          (.frz rfl (.refl zbt) (.frz rfl (.refl zce) (.frz rfl (.refl wo) (.frz rfl (.refl jas) (.frz rfl (.refl (hwo _)) (.frz rfl (.refl wib) (.frz rfl (.refl wo) (.frz rfl (.refl ji4) (.frz rfl (.refl wf9) (.frz rfl (.refl wo) (.frz rfl (.refl zbt) (.frz rfl (.refl zce) (.frz rfl (.refl wo) (.frz rfl (.refl wo) (.frz rfl (by rw[hvv];exact jbx (k:=0) rfl (yag _)) (.frz rfl (.refl wo) .nil)))))))))))))))) ?_
         by_cases hq:q.2=0
         ·rw[if_pos hq]at hst;rw[j7 hq]at c5;have hkq:=hkp hq;repeat' first|refine X ?_|refine yaC (c5) ?_|exact yaF|refine yaS ?_ ?_<;>intro _
          exact Go.keep [0,1,2,4,5,6,7,11,18,19] (hrec _ _ _ O ⟨i+1,_,q.1,rfl,hlt,jc hk O,⟨hkq,hst⟩,rfl,rfl⟩)
         ·rw[if_neg hq]at hst;obtain⟨e,he⟩:∃e,q.2=e:=⟨_,rfl⟩;rw[he]at hst hq;rw[zab he hq]at c5;rw[hst];repeat' first|refine X ?_|refine yaC (c5) ?_|exact yaF|refine yaS ?_ ?_<;>intro _
          exact .ret rfl (Fin.same (wa5 hq).symm (zh ([],e) _))
       ·repeat' first|refine X ?_|((first|apply yG|apply yH|apply yI);exact rfl;(first|exact yax encI hk hlt|exact yax wa rfl hn3|exact yax wb rfl hj))|refine yaC (c2) ?_|refine yaC (c3) ?_|refine yaC (c4) ?_|exact yaF|refine yaS ?_ ?_<;>intro _
        all_goals first
         |(exfalso;simp_all;done)
         |skip
        refine .call _ rfl rfl rfl (cm.at0 G) ?_;rintro r _ ⟨v,junk,hjk,rfl,rfl⟩;repeat' first|refine X ?_|exact yaF|refine yaS ?_ ?_<;>intro _
        refine Go.keep [0,1,2,4,5,6,7,11,18,19,21,26,27] (Go.loops (I:=λm fr V=>∃(a:Nat) (ka:Int) (vs:List Val),m=y.cols.length-a/\a<=y.cols.length/\ka=a/\(vs.length=db'[n].rows[j].vals.length/\jl (y.act==1) y.cols wth db'[n].rows[j].vals=jl (y.act==1) (y.cols.drop a) (wth.drop a) vs)/\
         fr=[(0,.c (.fz (s.map ja))),(1,.c (.fz (db'.map wa))),(2,.c (.int .i64 (n:Int))),(4,.c (.fz (key.map encV))),(5,.c (wv)),(6,.c (.bool gone)),(7,.c (.int .i64 deep)),(11,.c (.fp (zdf y))),(18,.c (.fz (ids.map encI))),(19,.c (.int .i64 k)),(21,.c (.fp (wb db'[n].rows[j]))),(26,.c (vec (G.next+0) v (db'[n].rows[j].vals.map encV) junk)),(27,.c (.int .i64 ka))]/\V=E G [(v,vs.map encV++junk)]) ?_ _ _ _ ⟨0,_,db'[n].rows[j].vals,rfl,yac _,rfl,⟨rfl,rfl⟩,rfl,rfl⟩)
        rintro m fr V ⟨a,ka,vs,rfl,hai,hka,⟨hvl,hsc⟩,rfl,rfl⟩ hreca;by_cases hlta:a<y.cols.length
        ·clear hrec;obtain⟨q1,q2⟩:=hcj _ (yaa hlta);have hcc:y.cols[a]=(y.cols[a].toNat:Int):=O;have hcv:y.cols[a].toNat<vs.length:=O;have hcm:y.cols[a].toNat<(db'[n].rows[j].vals.map encV).length:=by rw[yae];omega
         have hcv2:y.cols[a].toNat<(vs.set y.cols[a].toNat zf).length:=by rw[yaqq];exact hcv
         rw[yab hlta,jl,if_neg (by rw[beq_iff_eq];exact ha1),List.tail_drop]at hsc;repeat' first|refine X ?_|((first|apply yG|apply yH|apply yI);exact rfl;(first|exact yax encI hka hlta|exact w5 (k:=0) rfl rfl hcc hcm rfl (zak hcv) rfl|exact wj (k:=0) rfl rfl rfl rfl (zak hcv) rfl gz))|exact yaF|refine yaS ?_ ?_<;>intro _
         refine Go.keep [0,1,2,4,5,6,7,11,18,19,21,26,27] (hreca _ _ _ O ⟨a+1,_,vs.set y.cols[a].toNat zf,rfl,hlta,jc hka O,⟨by rw[yaqq];exact hvl,hsc⟩,rfl, ?_⟩);exact congrArg (E G) (congrArg (λz=>[(v,z)]) (jbz hcv _ zf))
        ·clear hreca;rw[yad (show y.cols.length<=a by omega),jl]at hsc;rw[hsc]at c5;repeat' first|refine X ?_|exact yaF|refine yaS ?_ ?_<;>intro _
         have hvv:vec (G.next+0) v (db'[n].rows[j].vals.map encV) junk=vec (G.next+0) v (vs.map encV) junk:=by rw[vec,vec,yae,yae,hvl]
         refine Go.freezeN (l:=[]) (m:=[(v,vs.map encV++junk)]) (fr':=[(0,.c (.fz (s.map ja))),(1,.c (.fz (db'.map wa))),(2,.c (.int .i64 (n:Int))),(4,.c (.fz (key.map encV))),(5,.c (wv)),(6,.c (.bool gone)),(7,.c (.int .i64 deep)),(11,.c (.fp (zdf y))),(18,.c (.fz (ids.map encI))),(19,.c (.int .i64 k)),(111,.c (.fz (s.map ja))),(112,.c (.fz (db'.map wa))),(113,.c (.int .i64 (n:Int))),(115,.c (.int .i64 db'[n].rows[j].id)),(116,.c (.fz (vs.map encV))),(118,.c (.int .i64 (IntKind.i64.wrap (deep+1))))]) hS (λb hb=>by cases hb) (yag _)
          (.frz rfl (.refl zbt) (.frz rfl (.refl zce) (.frz rfl (.refl wo) (.frz rfl (.refl jas) (.frz rfl (.refl (hwo _)) (.frz rfl (.refl wib) (.frz rfl (.refl wo) (.frz rfl (.refl ji4) (.frz rfl (.refl wf9) (.frz rfl (.refl wo) (.frz rfl (.refl zbt) (.frz rfl (.refl zce) (.frz rfl (.refl wo) (.frz rfl (.refl wo) (.frz rfl (by rw[hvv];exact jbx (k:=0) rfl (yag _)) (.frz rfl (.refl wo) .nil)))))))))))))))) ?_
         by_cases hq:q.2=0
         ·rw[if_pos hq]at hst;rw[j7 hq]at c5;have hkq:=hkp hq;repeat' first|refine X ?_|refine yaC (c5) ?_|exact yaF|refine yaS ?_ ?_<;>intro _
          exact Go.keep [0,1,2,4,5,6,7,11,18,19] (hrec _ _ _ O ⟨i+1,_,q.1,rfl,hlt,jc hk O,⟨hkq,hst⟩,rfl,rfl⟩)
         ·rw[if_neg hq]at hst;obtain⟨e,he⟩:∃e,q.2=e:=⟨_,rfl⟩;rw[he]at hst hq;rw[zab he hq]at c5;rw[hst];repeat' first|refine X ?_|refine yaC (c5) ?_|exact yaF|refine yaS ?_ ?_<;>intro _
          exact .ret rfl (Fin.same (wa5 hq).symm (zh ([],e) _))
 ·rw[yad O,z8]at hst;rw[hst];repeat' first|refine X ?_|exact yaF|refine yaS ?_ ?_<;>intro _
  exact .ret rfl (Fin.same rfl (zh (db',0) _))
end Go.Proofs.YtedaadaaibofaaaGreat.Am
namespace Go.Proofs.YtedaadaaibofaaaGreat.Am
variable {I:Nat->Int->Prop}

theorem jan(vals:List Val)(h0:vals≠[])(hx:vals.length<=34359738368)(G:jb):Ok Tryz.prog 85 [.c (.fz (vals.map encV))] G (Made G 3 (vals.map encV)):=
 (wji mixed jb5 (vals.map encV) lens (by rw[yae];omega) G).mono λr V h=>by
   rcases h with⟨h,_⟩|h
   ·exact absurd (List.map_eq_nil_iff.1 h) h0
   ·exact h
set_option maxHeartbeats 4000000 in
theorem zjt{L:ChL}{n:Nat}{s:List wc}{run:Chg->List Data->Res}{deep:Int}(hs:SchG s)(hr:jfo I L n s run (IntKind.i64.wrap (deep+1))){k:Nat}(hk:k<s.length)(r:RowD)(rv:Ce)(f:Fk)(wth:List Val)(gone:Bool)(wv:Ce)(hw:With gone wv wth f.cols.length)(hwv:∀v∈wth,zq v=true)(hw0:0<f.cols.length)(hcl:f.cols.length<=34359738368)
 (hc:InR f.cols s[k].cols.length) (db:List Data) (xs:List Ce) (V:jb) (h:ju L n s xs db V) (hdb:DbG I s db) (hrk:r∈jm db k) (hvl:Vl V r.vals rv):
 Ok Tryz.prog 372 [.c (.ptr L.c L.vc 0 0),.c (.int .i64 (k:Int)),.agg [.int .i64 r.id,rv],.agg (zae f),.c wv,.c (.int .i64 deep)] V (Done L n s (oneF run k (wcd f gone) wth gone r db) V):=by
 refine Ok.run0 mixed wbv gz λhS hA=>?_;clear hA;have hk2:k<db.length:=by rw[hdb.len];exact hk
 have hR:=hdb.at hk;have hfit:=hR.fit _ hrk;have ht:=hs.tab _ (yaa hk);have hv0:r.vals≠[]:=λh0=>by
  have h1:=hfit.1;rw[h0]at h1;have:=ht.cols0;simp at h1;omega
 obtain⟨f3,f4⟩:=ze.1 hfit.2;have cm:=Lend.made (.own hvl.frz .nil) (jan r.vals hv0 (yaj f3 gb)) λe he=>(ze2 e he).2;have hcj:InR f.cols r.vals.length:=by rw[hfit.1];exact hc
 rw[oneF]
 cases hw with
 |gone=>
  show Go _ _ _ _ (Done L n s (if f.onDelete=0 then(if f.deferred=true then(db,0)else([],5))else if f.onDelete=1/\true=true then run (.del k r.id) db else run (.upd k r.id (jl (f.onDelete==1) f.cols [] r.vals) false) db) V) _ _ _;repeat' first|refine X ?_|exact yaF|refine yaS ?_ ?_<;>intro _
  refine .call _ rfl rfl rfl cm ?_;rintro q _ ⟨v,junk,hjk,rfl,rfl⟩;by_cases h0:f.onDelete=0
  ·rw[if_pos h0]
   cases hd:f.deferred
   ·rw[if_neg yai];repeat' first|refine X ?_|exact yaF|refine yaS ?_ ?_<;>intro _
    all_goals first
     |(exfalso;simp_all;done)
     |exact .ret rfl ⟨rfl,.grow h _,λh=>by cases h⟩
   ·rw[if_pos rfl];repeat' first|refine X ?_|exact yaF|refine yaS ?_ ?_<;>intro _
    all_goals first
     |(exfalso;simp_all;done)
     |exact .ret rfl ⟨rfl,.grow h _,λ_=>⟨xs,h.grow _⟩⟩
  ·rw[if_neg h0];by_cases h1:f.onDelete=1
   ·rw[if_pos ⟨h1,rfl⟩];have c5:=hr.del k r.id db xs _ (h.grow [(v,r.vals.map encV++junk)]) hdb hk;repeat' first|refine X ?_|exact yaF|refine yaS ?_ ?_<;>intro _
    refine .call _ rfl rfl rfl c5 ?_;rintro r9 V9 ⟨rfl,hk9,hq9⟩;repeat' first|refine X ?_|exact yaF|refine yaS ?_ ?_<;>intro _
    exact .ret rfl ⟨rfl,(Kept.grow h _).trans hk9,hq9⟩
   ·rw[if_neg (λhh=>h1 hh.1),beq_eq_false_iff_ne.2 h1];obtain⟨wth,hwe⟩:∃wth:List Val,wth=[]:=⟨_,rfl⟩;rw[<-hwe]at hwv⊢;have hco:=zba (casc:=false) (cs:=f.cols) (w:=wth) hwv f4;have hok:zhm s (.upd k r.id (jl false f.cols wth r.vals) false):=⟨hk,by rw[hco.1];exact hfit.1,ze.2 ⟨by rw[hco.1];exact f3,hco.2⟩⟩;have c5:=hr.upd k r.id (jl false f.cols wth r.vals) false db xs V h hdb hok;generalize run (.upd k r.id (jl false f.cols wth r.vals) false) db=q at c5⊢;repeat' first|refine X ?_|exact yaF|refine yaS ?_ ?_<;>intro _
    refine Go.keep [0,1,5,8,14,29,30,31] (Go.loops (I:=λm fr V'=>∃(a:Nat) (ka:Int) (vs:List Val),m=f.cols.length-a/\a<=f.cols.length/\ka=a/\(vs.length=r.vals.length/\jl (false) f.cols wth r.vals=jl (false) (f.cols.drop a) (wth.drop a) vs)/\
     fr=[(0,.c (.ptr L.c L.vc 0 0)),(1,.c (.int .i64 (k:Int))),(5,.c (.int .i64 deep)),(8,.c (.fp [.int .i64 r.id,rv])),(14,.c (vec (V.next+0) v (r.vals.map encV) junk)),(29,.c (.fz (f.cols.map encI))),(30,.c (.int .i64 (f.cols.length:Int))),(31,.c (.int .i64 ka))]/\V'=E V [(v,vs.map encV++junk)]) ?_ _ _ _ ⟨0,_,r.vals,rfl,yac _,rfl,⟨rfl,rfl⟩,rfl,rfl⟩)
    rintro m fr V' ⟨a,ka,vs,rfl,hai,hka,⟨hvl,hsc⟩,rfl,rfl⟩ hreca;by_cases hlta:a<f.cols.length
    ·obtain⟨q1,q2⟩:=hcj _ (yaa hlta);have hcc:f.cols[a]=(f.cols[a].toNat:Int):=O;have hcv:f.cols[a].toNat<vs.length:=O;have hcm:f.cols[a].toNat<(r.vals.map encV).length:=by rw[yae];omega
     rw[yab hlta,jl,if_neg yai,List.tail_drop]at hsc;repeat' first|refine X ?_|((first|apply yG|apply yH|apply yI);exact rfl;(first|exact yax encI hka hlta|exact w5 (k:=0) rfl rfl hcc hcm rfl (zak hcv) rfl|exact wj (k:=0) rfl rfl rfl rfl (zak hcv) rfl gz))|exact yaF|refine yaS ?_ ?_<;>intro _
     refine Go.keep [0,1,5,8,14,29,30,31] (hreca _ _ _ O ⟨a+1,_,vs.set f.cols[a].toNat zf,rfl,hlta,jc hka O,⟨by rw[yaqq];exact hvl,hsc⟩,rfl, ?_⟩);exact congrArg (E V) (congrArg (λz=>[(v,z)]) (jbz hcv _ zf))
    ·clear hreca;rw[yad (show f.cols.length<=a by omega),jl]at hsc;rw[hsc]at c5;repeat' first|refine X ?_|exact yaF|refine yaS ?_ ?_<;>intro _
     have hvv:vec (V.next+0) v (r.vals.map encV) junk=vec (V.next+0) v (vs.map encV) junk:=by rw[vec,vec,yae,yae,hvl]
     refine Go.freezeN (l:=[]) (m:=[(v,vs.map encV++junk)]) (fr':=[(83,.c (.ptr L.c L.vc 0 0)),(84,.c (.int .i64 (k:Int))),(86,.c (.int .i64 r.id)),(87,.c (.fz (vs.map encV))),(89,.c (.int .i64 (IntKind.i64.wrap (deep+1))))]) hS (λb hb=>by cases hb) (yag _)
      (.frz rfl (.refl (z3 h.lc)) (.frz rfl (.refl wo) (.frz rfl (.refl wo) (.frz rfl (by rw[hvv];exact jbx (k:=0) rfl (yag _)) (.frz rfl (.refl wo) .nil))))) ?_
     rw[wh4 hS];refine .call _ rfl rfl rfl c5 ?_;rintro r9 V9 ⟨rfl,hk9,hq9⟩;repeat' first|refine X ?_|exact yaF|refine yaS ?_ ?_<;>intro _
     exact .ret rfl ⟨rfl,hk9,hq9⟩
 |now hwl=>
  show Go _ _ _ _ (Done L n s (if f.onUpdate=0 then(if f.deferred=true then(db,0)else([],5))else if f.onUpdate=1/\false=true then run (.del k r.id) db else run (.upd k r.id (jl (f.onUpdate==1) f.cols wth r.vals) false) db) V) _ _ _;obtain⟨w0,w,rfl⟩:∃w0 w,wth=w0::w:=by
   cases wth with
   |nil=>
    have h2:f.cols.length<=0:=hwl;omega
   |cons a b=>exact⟨a,b,rfl⟩
  repeat' first|refine X ?_|exact yaF|refine yaS ?_ ?_<;>intro _
  refine .call _ rfl rfl rfl cm ?_;rintro q _ ⟨v,junk,hjk,rfl,rfl⟩;by_cases h0:f.onUpdate=0
  ·rw[if_pos h0]
   cases hd:f.deferred
   ·rw[if_neg yai];repeat' first|refine X ?_|exact yaF|refine yaS ?_ ?_<;>intro _
    all_goals first
     |(exfalso;simp_all;done)
     |exact .ret rfl ⟨rfl,.grow h _,λh=>by cases h⟩
   ·rw[if_pos rfl];repeat' first|refine X ?_|exact yaF|refine yaS ?_ ?_<;>intro _
    all_goals first
     |(exfalso;simp_all;done)
     |exact .ret rfl ⟨rfl,.grow h _,λ_=>⟨xs,h.grow _⟩⟩
  ·rw[if_neg h0,if_neg (λhh=>yai hh.2)];by_cases h1:f.onUpdate=1
   ·rw[beq_iff_eq.2 h1];have hco:=zba (casc:=true) (cs:=f.cols) (w:=w0::w) hwv f4;have hok:zhm s (.upd k r.id (jl true f.cols (w0::w) r.vals) false):=⟨hk,by rw[hco.1];exact hfit.1,ze.2 ⟨by rw[hco.1];exact f3,hco.2⟩⟩;have c5:=hr.upd k r.id (jl true f.cols (w0::w) r.vals) false db xs V h hdb hok;generalize run (.upd k r.id (jl true f.cols (w0::w) r.vals) false) db=q at c5⊢;repeat' first|refine X ?_|exact yaF|refine yaS ?_ ?_<;>intro _
    refine Go.keep [0,1,4,5,8,14,68,69,70] (Go.loops (I:=λm fr V'=>∃(a:Nat) (ka:Int) (vs:List Val),m=f.cols.length-a/\a<=f.cols.length/\ka=a/\(vs.length=r.vals.length/\jl (true) f.cols (w0::w) r.vals=jl (true) (f.cols.drop a) ((w0::w).drop a) vs)/\
     fr=[(0,.c (.ptr L.c L.vc 0 0)),(1,.c (.int .i64 (k:Int))),(4,.c (.fz ((w0::w).map encV))),(5,.c (.int .i64 deep)),(8,.c (.fp [.int .i64 r.id,rv])),(14,.c (vec (V.next+0) v (r.vals.map encV) junk)),(68,.c (.fz (f.cols.map encI))),(69,.c (.int .i64 (f.cols.length:Int))),(70,.c (.int .i64 ka))]/\V'=E V [(v,vs.map encV++junk)]) ?_ _ _ _ ⟨0,_,r.vals,rfl,yac _,rfl,⟨rfl,rfl⟩,rfl,rfl⟩)
    rintro m fr V' ⟨a,ka,vs,rfl,hai,hka,⟨hvl,hsc⟩,rfl,rfl⟩ hreca;by_cases hlta:a<f.cols.length
    ·have hltw:a<(w0::w).length:=O;obtain⟨q1,q2⟩:=hcj _ (yaa hlta);have hcc:f.cols[a]=(f.cols[a].toNat:Int):=O;have hcv:f.cols[a].toNat<vs.length:=O;have hcm:f.cols[a].toNat<(r.vals.map encV).length:=by rw[yae];omega
     rw[yab hlta,yab hltw,jl,if_pos rfl,List.tail_cons,List.headD_cons]at hsc;repeat' first|refine X ?_|((first|apply yG|apply yH|apply yI);exact rfl;(first|exact yax encI hka hlta|exact yax encV hka hltw|exact w5 (k:=0) rfl rfl hcc hcm rfl (zak hcv) rfl|exact wj (k:=0) rfl rfl rfl rfl (zak hcv) rfl gz))|exact yaF|refine yaS ?_ ?_<;>intro _
     refine Go.keep [0,1,4,5,8,14,68,69,70] (hreca _ _ _ O ⟨a+1,_,vs.set f.cols[a].toNat (w0::w)[a],rfl,hlta,jc hka O,⟨by rw[yaqq];exact hvl,hsc⟩,rfl, ?_⟩);exact congrArg (E V) (congrArg (λz=>[(v,z)]) (jbz hcv _ (w0::w)[a]))
    ·clear hreca;rw[yad (show f.cols.length<=a by omega),jl]at hsc;rw[hsc]at c5;repeat' first|refine X ?_|exact yaF|refine yaS ?_ ?_<;>intro _
     have hvv:vec (V.next+0) v (r.vals.map encV) junk=vec (V.next+0) v (vs.map encV) junk:=by rw[vec,vec,yae,yae,hvl]
     refine Go.freezeN (l:=[]) (m:=[(v,vs.map encV++junk)]) (fr':=[(83,.c (.ptr L.c L.vc 0 0)),(84,.c (.int .i64 (k:Int))),(86,.c (.int .i64 r.id)),(87,.c (.fz (vs.map encV))),(89,.c (.int .i64 (IntKind.i64.wrap (deep+1))))]) hS (λb hb=>by cases hb) (yag _)
      (.frz rfl (.refl (z3 h.lc)) (.frz rfl (.refl wo) (.frz rfl (.refl wo) (.frz rfl (by rw[hvv];exact jbx (k:=0) rfl (yag _)) (.frz rfl (.refl wo) .nil))))) ?_
     rw[wh4 hS];refine .call _ rfl rfl rfl c5 ?_;rintro r9 V9 ⟨rfl,hk9,hq9⟩;repeat' first|refine X ?_|exact yaF|refine yaS ?_ ?_<;>intro _
     exact .ret rfl ⟨rfl,hk9,hq9⟩
   ·rw[beq_eq_false_iff_ne.2 h1];obtain⟨wth,hwe⟩:∃wth:List Val,wth=w0::w:=⟨_,rfl⟩;have hco:=zba (casc:=false) (cs:=f.cols) (w:=w0::w) hwv f4;have hok:zhm s (.upd k r.id (jl false f.cols (w0::w) r.vals) false):=⟨hk,by rw[hco.1];exact hfit.1,ze.2 ⟨by rw[hco.1];exact f3,hco.2⟩⟩;have c5:=hr.upd k r.id (jl false f.cols (w0::w) r.vals) false db xs V h hdb hok;generalize run (.upd k r.id (jl false f.cols (w0::w) r.vals) false) db=q at c5⊢;rw[<-hwe]at c5;repeat' first|refine X ?_|exact yaF|refine yaS ?_ ?_<;>intro _
    refine Go.keep [0,1,5,8,14,29,30,31] (Go.loops (I:=λm fr V'=>∃(a:Nat) (ka:Int) (vs:List Val),m=f.cols.length-a/\a<=f.cols.length/\ka=a/\(vs.length=r.vals.length/\jl (false) f.cols wth r.vals=jl (false) (f.cols.drop a) (wth.drop a) vs)/\
     fr=[(0,.c (.ptr L.c L.vc 0 0)),(1,.c (.int .i64 (k:Int))),(5,.c (.int .i64 deep)),(8,.c (.fp [.int .i64 r.id,rv])),(14,.c (vec (V.next+0) v (r.vals.map encV) junk)),(29,.c (.fz (f.cols.map encI))),(30,.c (.int .i64 (f.cols.length:Int))),(31,.c (.int .i64 ka))]/\V'=E V [(v,vs.map encV++junk)]) ?_ _ _ _ ⟨0,_,r.vals,rfl,yac _,rfl,⟨rfl,rfl⟩,rfl,rfl⟩)
    rintro m fr V' ⟨a,ka,vs,rfl,hai,hka,⟨hvl,hsc⟩,rfl,rfl⟩ hreca;by_cases hlta:a<f.cols.length
    ·obtain⟨q1,q2⟩:=hcj _ (yaa hlta);have hcc:f.cols[a]=(f.cols[a].toNat:Int):=O;have hcv:f.cols[a].toNat<vs.length:=O;have hcm:f.cols[a].toNat<(r.vals.map encV).length:=by rw[yae];omega
     rw[yab hlta,jl,if_neg yai,List.tail_drop]at hsc;repeat' first|refine X ?_|((first|apply yG|apply yH|apply yI);exact rfl;(first|exact yax encI hka hlta|exact w5 (k:=0) rfl rfl hcc hcm rfl (zak hcv) rfl|exact wj (k:=0) rfl rfl rfl rfl (zak hcv) rfl gz))|exact yaF|refine yaS ?_ ?_<;>intro _
     refine Go.keep [0,1,5,8,14,29,30,31] (hreca _ _ _ O ⟨a+1,_,vs.set f.cols[a].toNat zf,rfl,hlta,jc hka O,⟨by rw[yaqq];exact hvl,hsc⟩,rfl, ?_⟩);exact congrArg (E V) (congrArg (λz=>[(v,z)]) (jbz hcv _ zf))
    ·clear hreca;rw[yad (show f.cols.length<=a by omega),jl]at hsc;rw[hsc]at c5;repeat' first|refine X ?_|exact yaF|refine yaS ?_ ?_<;>intro _
     have hvv:vec (V.next+0) v (r.vals.map encV) junk=vec (V.next+0) v (vs.map encV) junk:=by rw[vec,vec,yae,yae,hvl]
     refine Go.freezeN (l:=[]) (m:=[(v,vs.map encV++junk)]) (fr':=[(83,.c (.ptr L.c L.vc 0 0)),(84,.c (.int .i64 (k:Int))),(86,.c (.int .i64 r.id)),(87,.c (.fz (vs.map encV))),(89,.c (.int .i64 (IntKind.i64.wrap (deep+1))))]) hS (λb hb=>by cases hb) (yag _)
      (.frz rfl (.refl (z3 h.lc)) (.frz rfl (.refl wo) (.frz rfl (.refl wo) (.frz rfl (by rw[hvv];exact jbx (k:=0) rfl (yag _)) (.frz rfl (.refl wo) .nil))))) ?_
     rw[wh4 hS];refine .call _ rfl rfl rfl c5 ?_;rintro r9 V9 ⟨rfl,hk9,hq9⟩;repeat' first|refine X ?_|exact yaF|refine yaS ?_ ?_<;>intro _
     exact .ret rfl ⟨rfl,hk9,hq9⟩
end Go.Proofs.YtedaadaaibofaaaGreat.Am
namespace Go.Proofs.YtedaadaaibofaaaGreat.Am
variable {I:Nat->Int->Prop}

theorem wbz{fr:Fr}{G:jb}{x y:Opd}{a b:List UInt8}{v:Bool}(hx:x.ev fr=some (.c (.str a)))(hy:y.ev fr=some (.c (.str b)))(h:(a !=b)=v):aop (.bin .neq x y) fr G=some (.c (.bool v),G):=by
 simp[aop,hx,hy,binA,h]
theorem zkf(f:Fk)(gone:Bool):zdf (wcd f gone)=[.int .i64 (if gone then f.onDelete else f.onUpdate),.bool f.deferred,.fz (f.cols.map encI)]:=rfl
set_option maxHeartbeats 4000000 in
theorem zb0{s:List wc}{run:Chg->List Data->Res}{deep:Int}(hs:SchG s)(hr:wdo I s run (IntKind.i64.wrap (deep+1))){n:Nat}(hn:n<s.length)(key wth:List Val)(gone:Bool)(wv:Ce)(hw:With gone wv wth s[n].key.length)(hwv:∀v∈wth,zq v=true)
 (db:List Data) (h:DbG I s db):
 Pure Tryz.prog 327 [.c (.fz (s.map ja)),.c (.fz (db.map wa)),.c (.int .i64 (n:Int)),.c (.fz (key.map encV)),.c wv,.c (.bool gone),.c (.int .i64 deep)] (resV (zu run s n key wth gone db)):=by
 refine yap [] wdk λG hS hA=>?_;clear hA;have hwo:∀(n:Nat),∀x∈(AV.c wv).all,Old n x:=λn=>hw.old;have hs5:=hs.few;rw[zu,wq hn];repeat' first|refine X ?_|exact yaF|refine yaS ?_ ?_<;>intro _
 refine Go.keep [0,1,2,3,4,5,6,16] (Go.loops (I:=λm fr V=>∃(i:Nat) (k:Int) (db':List Data),m=s.length-i/\i<=s.length/\k=i/\(DbG I s db'/\waa run s[n].name key wth gone 0 s db=waa run s[n].name key wth gone i (s.drop i) db')/\
  fr=[(0,.c (.fz (s.map ja))),(1,.c (.fz (db'.map wa))),(2,.c (.int .i64 (n:Int))),(3,.c (.fz (key.map encV))),(4,.c wv),(5,.c (.bool gone)),(6,.c (.int .i64 deep)),(16,.c (.int .i64 k))]/\V=E G []) ?_ _ _ _ ⟨0,_,db,rfl,yac _,rfl,⟨h,rfl⟩,rfl,rfl⟩)
 rintro m fr V ⟨i,k,db1,rfl,hi,hk,⟨hdb1,hst⟩,rfl,rfl⟩ hrec;by_cases hlt:i<s.length
 ·rw[yab hlt,waa]at hst;have hti:=hs.tab _ (yaa hlt);have hbi:=hs.big _ (yaa hlt);have hf3:=hti.fk3;repeat' first|refine X ?_|exact yaF|refine yaS ?_ ?_<;>intro _
  refine Go.keep [0,1,2,3,4,5,6,16,17] (Go.loops (I:=λm fr V=>∃(j:Nat) (kj:Int) (db':List Data),m=s[i].fks.length-j/\j<=s[i].fks.length/\kj=j/\(DbG I s db'/\zax run s[n].name i key wth gone s[i].fks db1=zax run s[n].name i key wth gone (s[i].fks.drop j) db')/\
   fr=[(0,.c (.fz (s.map ja))),(1,.c (.fz (db'.map wa))),(2,.c (.int .i64 (n:Int))),(3,.c (.fz (key.map encV))),(4,.c wv),(5,.c (.bool gone)),(6,.c (.int .i64 deep)),(16,.c (.int .i64 k)),(17,.c (.int .i64 kj))]/\V=E G []) ?_ _ _ _ ⟨0,_,db1,rfl,yac _,rfl,⟨hdb1,rfl⟩,rfl,rfl⟩)
  rintro m fr V ⟨j,kj,db',rfl,hj,hkj,⟨hdb,hsj⟩,rfl,rfl⟩ hrecj;by_cases hltj:j<s[i].fks.length
  ·clear hrec;rw[yab hltj,zax]at hsj;have hfm:=yaa hltj;by_cases hna:s[i].fks[j].table=s[n].name
   ·have hnb:(s[i].fks[j].table !=s[n].name)=false:=by rw[hna];exact bne_self_eq_false _
    rw[if_pos hna]at hsj;have hmt:=hs.met _ (yaa hlt) _ hfm n hn hna;have hw2:With gone wv wth (wcd s[i].fks[j] gone).cols.length:=by
     rw[<-hmt]at hw;exact hw
    have c1:=wi4 hs hr hlt (wcd s[i].fks[j] gone) key wth gone wv hw2 hwv (hti.fk _ hfm) (hbi.2.2.2.2.2.2 _ hfm).1 db' hdb;rw[zkf,<-hk]at c1;have hkp:=jbs (s:=s) hr.keeps hlt (y:=wcd s[i].fks[j] gone) (key:=key) (wth:=wth) (gone:=gone) hwv (l:=j3 (jm db' i) (wcd s[i].fks[j] gone).cols key) hdb;rw[show s[i].fks[j].cols=(wcd s[i].fks[j] gone).cols from rfl]at hsj;generalize z8 run i (wcd s[i].fks[j] gone) key wth gone (j3 (jm db' i) (wcd s[i].fks[j] gone).cols key) db'=q at c1 hsj hkp;by_cases hq:q.2=0
    ·rw[if_pos hq]at hsj;rw[j7 hq]at c1;have hkq:=hkp hq
     cases gone
     ·repeat' first|(apply yA;exact rfl)|apply yB|apply yC|((first|apply yD|apply yE);(first|exact yF|assumption);iterate 6 exact rfl)|((first|apply yG|apply yH|apply yI);exact rfl;(first|exact yJ|exact yK rfl rfl|exact yL rfl|exact yM rfl|exact wbz rfl rfl hnb|exact rfl|exact aL rfl rfl rfl rfl rfl|exact aS rfl rfl rfl rfl rfl rfl rfl|exact yax ja hk hlt|exact yax ja rfl hn|exact yax zae hkj hltj))|((first|apply yN|apply yO|apply yP);exact rfl)|((first|apply yQ|apply yR|apply yS);(iterate 3 exact rfl);exact c1)|exact yaF|(((first|apply yT|apply yU|apply yV|apply yW);exact rfl;(first|exact .d|exact .e|exact .n|((fail_if_success exact bqt);(fail_if_success exact bqf);exact .b)))<;>intro _)
      all_goals first
       |contradiction
       |skip
      exact Go.keep [0,1,2,3,4,5,6,16,17] (hrecj _ _ _ O ⟨j+1,_,q.1,rfl,hltj,jc hkj O,⟨hkq,hsj⟩,rfl,rfl⟩)
     ·repeat' first|(apply yA;exact rfl)|apply yB|apply yC|(apply yE (s:=5);(first|exact yF|assumption);iterate 6 exact rfl)|((first|apply yG|apply yH|apply yI);exact rfl;(first|exact yJ|exact yK rfl rfl|exact yL rfl|exact yM rfl|exact wbz rfl rfl hnb|exact rfl|exact aL rfl rfl rfl rfl rfl|exact aS rfl rfl rfl rfl rfl rfl rfl|exact yax ja hk hlt|exact yax ja rfl hn|exact yax zae hkj hltj))|((first|apply yN|apply yO|apply yP);exact rfl)|((first|apply yQ|apply yR|apply yS);(iterate 3 exact rfl);exact c1)|exact yaF|(((first|apply yT|apply yU|apply yV|apply yW);exact rfl;(first|exact .d|exact .e|exact .n|((fail_if_success exact bqt);(fail_if_success exact bqf);exact .b)))<;>intro _)
      all_goals first
       |contradiction
       |skip
      refine Go.freezeN (l:=[]) (m:=[(0,[[.int .i64 s[i].fks[j].onDelete,.bool s[i].fks[j].deferred,.fz (s[i].fks[j].cols.map encI)]])]) (fr':=[(0,.c (.fz (s.map ja))),(1,.c (.fz (q.1.map wa))),(2,.c (.int .i64 (n:Int))),(3,.c (.fz (key.map encV))),(4,.c wv),(5,.c (.bool true)),(6,.c (.int .i64 deep)),(16,.c (.int .i64 k)),(17,.c (.int .i64 (IntKind.i64.wrap (kj+1))))]) hS (λb hb=>by cases hb) (yag _)
       (.frz rfl (.refl zbt) (.frz rfl (.refl zce) (.frz rfl (.refl wo) (.frz rfl (.refl jas) (.frz rfl (.refl (hwo _)) (.frz rfl (.refl wib) (.frz rfl (.refl wo) (.frz rfl (.refl wo) (.frz rfl (.refl wo) .nil))))))))) ?_
      exact hrecj _ _ _ O ⟨j+1,_,q.1,rfl,hltj,jc hkj O,⟨hkq,hsj⟩,rfl,rfl⟩
    ·rw[if_neg hq]at hsj;obtain⟨e,he⟩:∃e,q.2=e:=⟨_,rfl⟩;rw[he]at hsj hq;rw[zab he hq]at c1;rw[hsj,if_neg hq]at hst;rw[hst]
     cases gone
     ·repeat' first|(apply yA;exact rfl)|apply yB|apply yC|((first|apply yD|apply yE);(first|exact yF|assumption);iterate 6 exact rfl)|((first|apply yG|apply yH|apply yI);exact rfl;(first|exact yJ|exact yK rfl rfl|exact yL rfl|exact yM rfl|exact wbz rfl rfl hnb|exact rfl|exact aL rfl rfl rfl rfl rfl|exact aS rfl rfl rfl rfl rfl rfl rfl|exact yax ja hk hlt|exact yax ja rfl hn|exact yax zae hkj hltj))|((first|apply yN|apply yO|apply yP);exact rfl)|((first|apply yQ|apply yR|apply yS);(iterate 3 exact rfl);exact c1)|exact yaF|(((first|apply yT|apply yU|apply yV|apply yW);exact rfl;(first|exact .d|exact .e|exact .n|((fail_if_success exact bqt);(fail_if_success exact bqf);exact .b)))<;>intro _)
      all_goals first
       |contradiction
       |exact .ret rfl (Fin.same (wa5 hq).symm (zh ([],e) _))
     ·repeat' first|(apply yA;exact rfl)|apply yB|apply yC|(apply yE (s:=5);(first|exact yF|assumption);iterate 6 exact rfl)|((first|apply yG|apply yH|apply yI);exact rfl;(first|exact yJ|exact yK rfl rfl|exact yL rfl|exact yM rfl|exact wbz rfl rfl hnb|exact rfl|exact aL rfl rfl rfl rfl rfl|exact aS rfl rfl rfl rfl rfl rfl rfl|exact yax ja hk hlt|exact yax ja rfl hn|exact yax zae hkj hltj))|((first|apply yN|apply yO|apply yP);exact rfl)|((first|apply yQ|apply yR|apply yS);(iterate 3 exact rfl);exact c1)|exact yaF|(((first|apply yT|apply yU|apply yV|apply yW);exact rfl;(first|exact .d|exact .e|exact .n|((fail_if_success exact bqt);(fail_if_success exact bqf);exact .b)))<;>intro _)
      all_goals first
       |contradiction
       |exact .ret rfl (Fin.same (wa5 hq).symm (zh ([],e) _))
   ·have hnb:(s[i].fks[j].table !=s[n].name)=true:=by rw[bne_iff_ne];exact hna
    rw[if_neg hna]at hsj;repeat' first|(apply yA;exact rfl)|apply yB|apply yC|((first|apply yD|apply yE);(first|exact yF|assumption);iterate 6 exact rfl)|((first|apply yG|apply yH|apply yI);exact rfl;(first|exact yJ|exact yK rfl rfl|exact yL rfl|exact yM rfl|exact wbz rfl rfl hnb|exact rfl|exact aL rfl rfl rfl rfl rfl|exact aS rfl rfl rfl rfl rfl rfl rfl|exact yax ja hk hlt|exact yax ja rfl hn|exact yax zae hkj hltj))|((first|apply yN|apply yO|apply yP);exact rfl)|exact yaF|(((first|apply yT|apply yU|apply yV|apply yW);exact rfl;(first|exact .d|exact .e|exact .n|((fail_if_success exact bqt);(fail_if_success exact bqf);exact .b)))<;>intro _)
    all_goals first
     |contradiction
     |skip
    exact Go.keep [0,1,2,3,4,5,6,16,17] (hrecj _ _ _ O ⟨j+1,_,db',rfl,hltj,jc hkj O,⟨hdb,hsj⟩,rfl,rfl⟩)
  ·rw[yad O,zax]at hsj;rw[hsj,if_pos rfl]at hst;repeat' first|refine X ?_|((first|apply yG|apply yH|apply yI);exact rfl;(first|exact yax ja hk hlt))|exact yaF|refine yaS ?_ ?_<;>intro _
   exact Go.keep [0,1,2,3,4,5,6,16] (hrec _ _ _ O ⟨i+1,_,db',rfl,hlt,jc hk O,⟨hdb,hst⟩,rfl,rfl⟩)
 ·rw[yad O,waa]at hst;rw[hst];repeat' first|refine X ?_|exact yaF|refine yaS ?_ ?_<;>intro _
  exact .ret rfl (Fin.same rfl (zh (db1,0) _))
end Go.Proofs.YtedaadaaibofaaaGreat.Am
namespace Go.Proofs.YtedaadaaibofaaaGreat.Am
variable {I:Nat->Int->Prop}

theorem Qg.fcall{P:Program}{G:jb}{fr:Fr}{d:Option Nat}{f:Opd}{args:List Opd}{g:Option (Nat×Bool)}{rest:List zd}{n:Nat}{pre cap:List Ce}{vs:List AV}{r:AV}{Post:Fr->Prop}(hw:wants fr g=some true)(hf:f.ev fr=some (.c (.fn n pre cap)))(ha:evs fr args=some vs)
 (hp:Ok P n (pre.map .c++vs++cap.map .c) G (λr' G'=>r'=r/\G'=G)) (h:Qg P G rest (putA fr d r) Post):Qg P G (⟨d,.call f args,g⟩::rest) fr Post:=
 let⟨F,h1,h2⟩:=h
 ⟨F,.call hw hf ha hp h1,h2⟩
set_option maxHeartbeats 4000000 in
theorem zgz{L:ChL}{n:Nat}{s:List wc}{run:Chg->List Data->Res}{deep:Int}(hs:SchG s)(hr:jfo I L n s run (IntKind.i64.wrap (deep+1))){k:Nat}(hk:k<s.length)(key wth:List Val)(gone:Bool)(wv:Ce)(hw:With gone wv wth s[k].key.length)(hwv:∀v∈wth,zq v=true)(hw0:0<s[k].key.length)
 (db:List Data) (xs:List Ce) (V:jb) (h:ju L n s xs db V) (hdb:DbG I s db):
 Ok Tryz.prog 345 [.c (.ptr L.c L.vc 0 0),.c (.int .i64 (k:Int)),.c (.fz (key.map encV)),.c wv,.c (.int .i64 deep)] V (Done L n s (zu run s k key wth gone db) V):=by
 refine Ok.run0 mixed jbq gz λhS hA=>?_;clear hS hA;have hs5:=hs.few;rw[zu,wq hk];repeat' first|refine X ?_|((first|apply yG|apply yH|apply yI);exact rfl;(first|exact zde h rfl))|exact yaF|refine yaS ?_ ?_<;>intro _
 refine Go.keep [0,1,2,3,4,22,23,24] (Go.loops (I:=λm fr V'=>∃(i:Nat) (ki:Int) (db':List Data) (xs':List Ce),m=s.length-i/\i<=s.length/\ki=i/\(DbG I s db'/\ju L n s xs' db' V'/\Kept n V V'/\waa run s[k].name key wth gone 0 s db=waa run s[k].name key wth gone i (s.drop i) db')/\
  fr=[(0,.c (.ptr L.c L.vc 0 0)),(1,.c (.int .i64 (k:Int))),(2,.c (.fz (key.map encV))),(3,.c wv),(4,.c (.int .i64 deep)),(22,.c (.fz (s.map ja))),(23,.c (.int .i64 (s.length:Int))),(24,.c (.int .i64 ki))]) ?_ _ _ _ ⟨0,_,db,xs,rfl,yac _,rfl,⟨hdb,h,.refl,rfl⟩,rfl⟩)
 rintro m fr V1 ⟨i,ki,db1,xs1,rfl,hi,hki,⟨hdb1,hH1,hk1,hst⟩,rfl⟩ hrec;by_cases hlt:i<s.length
 ·rw[yab hlt,waa]at hst;have hti:=hs.tab _ (yaa hlt);have hbi:=hs.big _ (yaa hlt);have hf3:=hti.fk3;have hn0:V.next<=V1.next:=hk1.next;subst hki;repeat' first|refine X ?_|((first|apply yG|apply yH|apply yI);exact rfl;(first|exact yax ja rfl hlt))|exact yaF|refine yaS ?_ ?_<;>intro _
  refine Go.keep [0,1,2,3,4,11,22,23,24,30,31,32] (Go.loops (I:=λm fr V'=>∃(j:Nat) (kj:Int) (db':List Data) (xs':List Ce),m=s[i].fks.length-j/\j<=s[i].fks.length/\kj=j/\(DbG I s db'/\ju L n s xs' db' V'/\Kept n V V'/\zax run s[k].name i key wth gone s[i].fks db1=zax run s[k].name i key wth gone (s[i].fks.drop j) db')/\
   fr=[(0,.c (.ptr L.c L.vc 0 0)),(1,.c (.int .i64 (k:Int))),(2,.c (.fz (key.map encV))),(3,.c wv),(4,.c (.int .i64 deep)),(11,.c (.int .i64 (i:Int))),(22,.c (.fz (s.map ja))),(23,.c (.int .i64 (s.length:Int))),(24,.c (.int .i64 (i:Int))),(30,.c (.fz (s[i].fks.map zae))),(31,.c (.int .i64 (s[i].fks.length:Int))),(32,.c (.int .i64 kj))]) ?_ _ _ _ ⟨0,_,db1,xs1,rfl,yac _,rfl,⟨hdb1,hH1,hk1,rfl⟩,rfl⟩)
  clear hn0;rintro m fr V2 ⟨j,kj,db2,xs2,rfl,hj,hkj,⟨hdb2,hH2,hk2,hsj⟩,rfl⟩ hrecj;by_cases hltj:j<s[i].fks.length
  ·clear hrec;rw[yab hltj,zax]at hsj;have hfm:=yaa hltj;have hn0:V.next<=V2.next:=hk2.next;by_cases hna:s[i].fks[j].table=s[k].name
   ·have hnb:(s[i].fks[j].table !=s[k].name)=false:=by rw[hna];exact bne_self_eq_false _
    rw[if_pos hna]at hsj;have hmt:=hs.met _ (yaa hlt) _ hfm k hk hna;have hw2:With gone wv wth s[i].fks[j].cols.length:=by rw[hmt];exact hw
    have hfc:=hti.fk _ hfm;have hfl:=(hbi.2.2.2.2.2.2 _ hfm).1;have hn3:i<db2.length:=by rw[hdb2.len];exact hlt
    have hn4:i<xs2.length:=by rw[hH2.len];exact hn3
    have hR2:=hdb2.rows i hlt hn3;have hz:=hH2.frzR hn3 hn4;have c1:=wi3 db2[i].rows s[i].fks[j].cols key (yaj hR2.len gb) hfl (λr hr=>by rw[(hR2.fit r hr).1];exact hfc);rw[je hn3]at hsj;have hil:(j3 db2[i].rows s[i].fks[j].cols key).length<=60:=by
     rw[j3,yae];exact yaj (ybt _ _) hR2.len
    generalize j3 db2[i].rows s[i].fks[j].cols key=ids at c1 hil hsj;repeat' first|(apply yA;exact rfl)|apply yB|apply yC|((first|apply yD|apply yE);(first|exact yF|assumption);iterate 6 exact rfl)|((first|apply yG|apply yH|apply yI);exact rfl;(first|exact yJ|exact yK rfl rfl|exact yL rfl|exact yM rfl|exact wbz rfl rfl hnb|exact rfl|exact aL rfl rfl rfl rfl rfl|exact aS rfl rfl rfl rfl rfl rfl rfl|exact yax zae hkj hltj|exact yax ja rfl hk|exact zde hH2 rfl|exact wbs hH2 rfl|exact jde hH2 rfl rfl rfl hn3|exact wde hH2 rfl hn4))|((first|apply yN|apply yO|apply yP);exact rfl)|exact yaF|(((first|apply yT|apply yU|apply yV|apply yW);exact rfl;(first|exact .d|exact .e|exact .n|((fail_if_success exact bqt);(fail_if_success exact bqf);exact .b)))<;>intro _)
    refine Qg.fcall rfl rfl rfl (Lend.fresh (.own hz (.same (.same .nil))) c1) ?_;repeat' first|refine X ?_|exact yaF|refine yaS ?_ ?_<;>intro _
    clear c1 hz hn0
    refine Go.keep [0,1,2,3,4,11,14,22,23,24,30,31,32,58,59,60] (Go.loops (I:=λm fr V'=>∃(a:Nat) (ka:Int) (db':List Data) (xs':List Ce),m=ids.length-a/\a<=ids.length/\ka=a/\(DbG I s db'/\ju L n s xs' db' V'/\Kept n V V'/\z8 run i (wcd s[i].fks[j] gone) key wth gone ids db2=z8 run i (wcd s[i].fks[j] gone) key wth gone (ids.drop a) db')/\
     fr=[(0,.c (.ptr L.c L.vc 0 0)),(1,.c (.int .i64 (k:Int))),(2,.c (.fz (key.map encV))),(3,.c wv),(4,.c (.int .i64 deep)),(11,.c (.int .i64 (i:Int))),(14,.c (.fp (zae s[i].fks[j]))),(22,.c (.fz (s.map ja))),(23,.c (.int .i64 (s.length:Int))),(24,.c (.int .i64 (i:Int))),(30,.c (.fz (s[i].fks.map zae))),(31,.c (.int .i64 (s[i].fks.length:Int))),(32,.c (.int .i64 kj)),(58,.c (.fz (ids.map encI))),(59,.c (.int .i64 (ids.length:Int))),(60,.c (.int .i64 ka))]) ?_ _ _ _ ⟨0,_,db2,xs2,rfl,yac _,rfl,⟨hdb2,hH2,hk2,rfl⟩,rfl⟩)
    rintro m fr V3 ⟨a,ka,db3,xs3,rfl,ha,hka,⟨hdb3,hH3,hk3,hsa⟩,rfl⟩ hreca;by_cases hlta:a<ids.length
    ·clear hrecj;have hn5:i<db3.length:=by rw[hdb3.len];exact hlt
     have hn6:i<xs3.length:=by rw[hH3.len];exact hn5
     have hR3:=hdb3.rows i hlt hn5;rw[yab hlta,z8,je hn5]at hsa;have cf:=jdo hH3 hn5 hn6 ids[a] hR3.len;rcases jn db3[i].rows ids[a]with⟨hx1,hx2⟩|⟨b,hb,hx1,hx2⟩
     ·rw[hx2]at hsa;repeat' first|refine X ?_|((first|apply yG|apply yH|apply yI);exact rfl;(first|exact yax encI hka hlta))|exact yaF|refine yaS ?_ ?_<;>intro _
      refine .call _ rfl rfl rfl (cf.1 hx2) ?_;rintro r9 V9 ⟨hr9,ht9⟩;rw[hr9,ht9];clear hr9 ht9;repeat' first|refine X ?_|exact yaF|refine yaS ?_ ?_<;>intro _
      exact Go.keep [0,1,2,3,4,11,14,22,23,24,30,31,32,58,59,60] (hreca _ _ _ O ⟨a+1,_,db3,xs3,rfl,hlta,jc hka O,⟨hdb3,hH3,hk3,hsa⟩,rfl⟩)
     ·rw[hx2]at hsa;simp only at hsa;have hfit:=hR3.fit _ (yaa hb);obtain⟨lab2,ps2,id2,v2,junk2,hat,hl2⟩:=hH3.some hn5 hn6 (Nat.lt_of_le_of_lt (yac _) hb);have hfz:=hat.frz hb;have c2:=whx s[i].fks[j].cols db3[i].rows[b].vals key hfl (by rw[hfit.1];exact hfc);repeat' first|refine X ?_|((first|apply yG|apply yH|apply yI);exact rfl;(first|exact yax encI hka hlta))|exact yaF|refine yaS ?_ ?_<;>intro _
      refine .call _ rfl rfl rfl (cf.2 b hb hx1 _ _ _ _ _ hat) ?_;rintro r9 V9 ⟨hr9,ht9⟩;rw[hr9,ht9];clear hr9 ht9;rw[show(wcd s[i].fks[j] gone).cols=s[i].fks[j].cols from rfl]at hsa
      cases hhb:hasB s[i].fks[j].cols key db3[i].rows[b].vals
      ·rw[hhb]at c2;rw[hhb,if_neg yai]at hsa;repeat' first|refine X ?_|((first|apply yG|apply yH|apply yI);exact rfl;(first|exact wz rfl hat.get (hat.at hb) (yal _)))|exact yaF|refine yaS ?_ ?_<;>intro _
       refine Go.slcall rfl rfl rfl c2 (.bool _) (.same (.own hfz (.same .nil))) ?_;repeat' first|refine X ?_|exact yaF|refine yaS ?_ ?_<;>intro _
       exact Go.keep [0,1,2,3,4,11,14,22,23,24,30,31,32,58,59,60] (hreca _ _ _ O ⟨a+1,_,db3,xs3,rfl,hlta,jc hka O,⟨hdb3,hH3,hk3,hsa⟩,rfl⟩)
      ·rw[hhb]at c2;rw[hhb,if_pos rfl]at hsa;have hvl:=(hat.vl _ (yaa (by rw[hat.len];exact hb))).1;rw[hat.row hb]at hvl;have c5:=zjt hs hr hlt db3[i].rows[b] _ s[i].fks[j] wth gone wv hw2 hwv (by rw[hmt];exact hw0) hfl hfc db3 xs3 V3 hH3 hdb3 (by rw[je hn5];exact yaa hb) hvl;rw[<-congrArg RowD.id (hat.row hb)]at c5;have hkp:=wi2 (I:=I) hr.keeps hlt (y:=wcd s[i].fks[j] gone) (wth:=wth) (gone:=gone) (x:=db3[i].rows[b]) hdb3 hwv (by rw[je hn5];exact yaa hb);generalize oneF run i (wcd s[i].fks[j] gone) wth gone db3[i].rows[b] db3=q at c5 hsa hkp;repeat' first|refine X ?_|((first|apply yG|apply yH|apply yI);exact rfl;(first|exact wz rfl hat.get (hat.at hb) (yal _)))|exact yaF|refine yaS ?_ ?_<;>intro _
       refine Go.slcall rfl rfl rfl c2 (.bool _) (.same (.own hfz (.same .nil))) ?_;repeat' first|refine X ?_|((first|apply yG|apply yH|apply yI);exact rfl;(first|exact jba rfl hat.get (hat.at hb) rfl))|exact yaF|refine yaS ?_ ?_<;>intro _
       refine Go.scall _ rfl rfl rfl c5 ?_;rintro r9 V9 ⟨hr9,hk9,hq9⟩;rw[hr9];clear hr9;by_cases hq:q.2=0
       ·rw[if_pos hq]at hsa;obtain⟨xs9,hH9⟩:=hq9 hq;rw[hq];repeat' first|refine X ?_|exact yaF|refine yaS ?_ ?_<;>intro _
        exact Go.keep [0,1,2,3,4,11,14,22,23,24,30,31,32,58,59,60] (hreca _ _ _ O ⟨a+1,_,q.1,xs9,rfl,hlta,jc hka O,⟨hkp hq,hH9,hk3.trans hk9,hsa⟩,rfl⟩)
       ·rw[if_neg hq]at hsa;obtain⟨e,he⟩:∃e,q.2=e:=⟨_,rfl⟩;rw[he]at hq hsa⊢;rw[hsa,if_neg hq]at hsj;rw[hsj,if_neg hq]at hst;rw[hst];repeat' first|refine X ?_|exact yaF|refine yaS ?_ ?_<;>intro _
        exact .ret rfl ⟨rfl,hk3.trans hk9,λh=>absurd h hq⟩
    ·rw[yad O,z8]at hsa;rw[hsa,if_pos rfl]at hsj;repeat' first|refine X ?_|exact yaF|refine yaS ?_ ?_<;>intro _
     exact Go.keep [0,1,2,3,4,11,22,23,24,30,31,32] (hrecj _ _ _ O ⟨j+1,_,db3,xs3,rfl,hltj,jc hkj O,⟨hdb3,hH3,hk3,hsj⟩,rfl⟩)
   ·have hnb:(s[i].fks[j].table !=s[k].name)=true:=by rw[bne_iff_ne];exact hna
    rw[if_neg hna]at hsj;repeat' first|(apply yA;exact rfl)|apply yB|apply yC|((first|apply yD|apply yE);(first|exact yF|assumption);iterate 6 exact rfl)|((first|apply yG|apply yH|apply yI);exact rfl;(first|exact yJ|exact yK rfl rfl|exact yL rfl|exact yM rfl|exact wbz rfl rfl hnb|exact rfl|exact aL rfl rfl rfl rfl rfl|exact aS rfl rfl rfl rfl rfl rfl rfl|exact yax zae hkj hltj|exact yax ja rfl hk|exact zde hH2 rfl))|((first|apply yN|apply yO|apply yP);exact rfl)|exact yaF|(((first|apply yT|apply yU|apply yV|apply yW);exact rfl;(first|exact .d|exact .e|exact .n|((fail_if_success exact bqt);(fail_if_success exact bqf);exact .b)))<;>intro _)
    exact Go.keep [0,1,2,3,4,11,22,23,24,30,31,32] (hrecj _ _ _ O ⟨j+1,_,db2,xs2,rfl,hltj,jc hkj O,⟨hdb2,hH2,hk2,hsj⟩,rfl⟩)
  ·rw[yad O,zax]at hsj;rw[hsj,if_pos rfl]at hst;repeat' first|refine X ?_|exact yaF|refine yaS ?_ ?_<;>intro _
   exact Go.keep [0,1,2,3,4,22,23,24] (hrec _ _ _ O ⟨i+1,_,db2,xs2,rfl,hlt,jc rfl O,⟨hdb2,hH2,hk2,hst⟩,rfl⟩)
 ·rw[yad O,waa]at hst;rw[hst];repeat' first|refine X ?_|exact yaF|refine yaS ?_ ?_<;>intro _
  exact .ret rfl ⟨rfl,hk1,λ_=>⟨xs1,hH1⟩⟩
end Go.Proofs.YtedaadaaibofaaaGreat.Am
namespace Go.Proofs.YtedaadaaibofaaaGreat.Am
variable {I:Nat->Int->Prop}

theorem Go.qxd{P:Program}{n0 nt:Nat}{rets:List RV}{R:AV->jb->Prop}{K:List AK}{fr:Fr}{α β:Type}{seg:List zd}{rest:List (List zd)}(S:α->β->jb)(I:β->Prop)(a:α)(b:β)(hi:∀a b b',S a b=S a b'->b=b')(hI:I b)(h:Qx P S I (λF a b=>Go P n0 nt rets R (.segs rest::K) F (S a b)) seg fr a b):Go P n0 nt rets R (.segs (seg::rest)::K) fr (S a b):=
 .qx S I _ a b hi hI h λ_ _ _ h=>h
theorem Ok.ext{P:Program}{f:Nat}{args:List AV}{G V:jb}{Q:AV->jb->Prop}(h:Ok P f args V Q)(e:G=V):Ok P f args G Q:=e▸h
def delF(run:Chg->List Data->Res)(s:List wc)(k:Nat)(id:Int)(db:List Data):Res:=match jac (jm db k) id with
 |none=>([],9)
 |some x=>zu run s k (keyF (tabN s k).key x.vals) [] true (db.set k ⟨jx (jm db k) id⟩)
theorem zi5{α:Type}{p:α->Bool}:∀{l:List α} {i:Int} {j:Nat},0<=i->idxA p l i=i+(j:Int)->j<l.length->(∀x∈l.take j,p x=false)/\∀h:j<l.length,p l[j]=true
 |[],_,_,_,_,h=>by simp at h
 |a::l,i,j,hi,h,hj=>by
  rw[idxA]at h
  cases ha:p a
  ·rw[ha,if_neg yai]at h
   cases j with
   |zero=>
    exfalso;rcases wcj p l (i+1)with⟨h1,_⟩|⟨k,hk,h1,_⟩
    ·rw[h1]at h;omega
    ·omega
   |succ j=>
    obtain⟨h1,h2⟩:=zi5 (l:=l) (i:=i+1) (j:=j) O (by rw[h];omega) (by simpa using hj);refine⟨λx hx=>?_,λh=>by simpa using h2 (by simpa using h)⟩;rw[List.take_succ_cons]at hx;rcases List.mem_cons.1 hx with rfl|hx
    ·exact ha
    ·exact h1 x hx
  ·rw[ha,if_pos rfl]at h;have:j=0:=O;subst this;exact⟨λx hx=>by simp at hx,λh=>by simpa using ha⟩
theorem At.ne{L:ChL}{n k:Nat}{lab:Nat->Nat×Option Int}{V:jb}{rows:List RowD}{x:Ce}{ps:List PRow}{id v:Nat}{junk:List (List Ce)}(h:At L n k lab V rows x ps id v junk){p:PRow}(hp:p∈ps){a:Nat}(ha:idOf p.2=some a):a≠id:=λe=>by
 have h1:=((h.vl p hp).2 a ha).1;rw[e,h.own.1]at h1
 cases h1
set_option maxHeartbeats 4000000 in
theorem jif{L:ChL}{n:Nat}{s:List wc}{run:Chg->List Data->Res}{deep:Int}(hs:SchG s)(hr:jfo I L n s run (IntKind.i64.wrap (deep+1)))(hd:deep<=12){k:Nat}(hk:k<s.length)(id:Int)(db:List Data)(xs:List Ce)(V:jb)(h:ju L n s xs db V)(hdb:DbG I s db):
 Ok Tryz.prog 281 [.c (.ptr L.c L.vc 0 0),.c (.int .i64 (k:Int)),.c (.int .i64 id),.c (.int .i64 deep)] V (Done L n s (delF run s k id db) V):=by
 refine Ok.run0 mixed zaj gz λhS hA=>?_;clear hS hA;have hk2:k<db.length:=by rw[hdb.len];exact hk
 have hk3:k<xs.length:=by rw[h.len];exact hk2
 have hR:=hdb.rows k hk hk2;have ht:=hs.tab _ (yaa hk);have cf:=jdo h hk2 hk3 id hR.len;rw[delF,je hk2,wq hk];repeat' first|refine X ?_|exact yaF|refine yaS ?_ ?_<;>intro _
 rcases jn db[k].rows id with⟨hx1,hx2⟩|⟨j,hj,hx1,hx2⟩
 ·rw[hx2];refine .call _ rfl rfl rfl (cf.1 hx2) ?_;rintro r9 V9 ⟨hr9,ht9⟩;rw[hr9,ht9];repeat' first|refine X ?_|exact yaF|refine yaS ?_ ?_<;>intro _
  exact .ret rfl ⟨rfl,.refl,λh=>by cases h⟩
 ·rw[hx2];show Go _ _ _ _ (Done L n s (zu run s k (keyF s[k].key db[k].rows[j].vals) [] true (db.set k ⟨jx db[k].rows id⟩)) V) _ _ _;have hfit:=hR.fit _ (yaa hj);obtain⟨lab2,ps2,id2,v2,junk2,hat,hl2⟩:=h.some hk2 hk3 (Nat.lt_of_le_of_lt (yac _) hj);obtain⟨_,q1,q2,q3,q4⟩:=hat.own;have hj2:j<ps2.length:=by rw[hat.len];exact hj
  have ck:=Lend.fresh (.same (.own (hat.frz hj) .nil)) (wex s[k].key db[k].rows[j].vals (hs.big _ (yaa hk)).2.2.1 (by rw[hfit.1];exact ht.key));have hpre:=zi5 (p:=λr:RowD=>r.id==id) (l:=db[k].rows) (i:=0) (j:=j) gb (by rw[hx1];omega) hj;have hzf:=h.frzR hk2 hk3;rw[hat.x,<-hat.rows]at hzf;have hdrop:(ps2.filter λr=> !(r.1.id==id)).map (·.1)=jx db[k].rows id:=by
   rw[jx,<-hat.rows,List.filter_map]
   rfl
  have cd:=zif ps2 junk2 id (by rw[hat.len];exact hR.len) id2 v2 V hat.get hat.jk hzf j hj2 (by rw[hat.rows];exact hx1) (by rw[hat.row hj];exact hpre.2 hj) (λr hr=>hpre.1 r.1 (by rw[<-hat.rows,<-List.map_take];exact List.mem_map_of_mem hr));rw[<-hat.x]at cd;have hset:DbG I s (db.set k ⟨jx db[k].rows id⟩):=hdb.set hk (hR.drop id);refine .call _ rfl rfl rfl (cf.2 j hj hx1 _ _ _ _ _ hat) ?_;rintro r9 V9 ⟨hr9,ht9⟩;rw[hr9,ht9];clear hr9 ht9;repeat' first|apply Go.seq|apply Go.skip|apply Go.region|apply Go.nil|apply Go.block|apply Go.blk|apply Go.segs|(apply Go.exit;exact rfl)|(apply Go.cond true;exact rfl)|(apply Go.cond false;exact rfl)|apply yB|apply yC|((first|apply yD|apply yE);(first|exact yF|assumption);iterate 6 exact rfl)|((first|apply yG|apply yH|apply yI);exact rfl;(first|exact yJ|exact yK rfl rfl|exact yL rfl|exact yM rfl|exact rfl|exact aL rfl rfl rfl rfl rfl|exact aS rfl rfl rfl rfl rfl rfl rfl))|((first|apply yN|apply yO|apply yP);exact rfl)|exact yaF|(((first|apply yT|apply yU|apply yV|apply yW);exact rfl;(first|exact .d|exact .e|exact .n|((fail_if_success exact bqt);(fail_if_success exact bqf);exact .b)))<;>intro _)
  apply Go.draw;repeat' first|apply Go.seq|apply Go.skip|apply Go.region|apply Go.nil|apply Go.block|apply Go.blk|apply Go.segs|(apply Go.exit;exact rfl)|(apply Go.cond true;exact rfl)|(apply Go.cond false;exact rfl)|apply yB|apply yC|((first|apply yD|apply yE);(first|exact yF|assumption);iterate 6 exact rfl)|((first|apply yG|apply yH|apply yI);exact rfl;(first|exact yJ|exact yK rfl rfl|exact yL rfl|exact yM rfl|exact rfl|exact aL rfl rfl rfl rfl rfl|exact aS rfl rfl rfl rfl rfl rfl rfl|exact zde h rfl|exact yax ja rfl hk|exact wz rfl hat.get (hat.at hj) (yal _)))|((first|apply yN|apply yO|apply yP);exact rfl)|exact yaF|(((first|apply yT|apply yU|apply yV|apply yW);exact rfl;(first|exact .d|exact .e|exact .n|((fail_if_success exact bqt);(fail_if_success exact bqf);exact .b)))<;>intro _)
  refine Go.scall _ rfl rfl rfl ck ?_;rintro r9 V8 ⟨hr9,ht9⟩;rw[hr9,ht9];clear hr9 ht9;repeat' first|apply Go.seq|apply Go.skip|apply Go.region|apply Go.nil|apply Go.block|apply Go.blk|apply Go.segs|(apply Go.exit;exact rfl)|(apply Go.cond true;exact rfl)|(apply Go.cond false;exact rfl)|apply yB|apply yC|((first|apply yD|apply yE);(first|exact yF|assumption);iterate 6 exact rfl)|((first|apply yG|apply yH|apply yI);exact rfl;(first|exact yJ|exact yK rfl rfl|exact yL rfl|exact yM rfl|exact rfl|exact aL rfl rfl rfl rfl rfl|exact aS rfl rfl rfl rfl rfl rfl rfl))|((first|apply yN|apply yO|apply yP);exact rfl)|exact yaF|(((first|apply yT|apply yU|apply yV|apply yW);exact rfl;(first|exact .d|exact .e|exact .n|((fail_if_success exact bqt);(fail_if_success exact bqf);exact .b)))<;>intro _)
  apply Go.draw;have hcA:∀a,(V.put id2 a).get L.c=some (L.vc,[[.fz (s.map ja),.sl L.d L.vd 0 db.length (db.length+L.junk.length)]]):=λa=>(if_neg (Ne.symm q3)).trans h.c;have hdA:∀a,(V.put id2 a).get L.d=some (L.vd,cells xs++L.junk):=λa=>(if_neg (Ne.symm q4)).trans h.d;refine Go.ext ?_ (jf9 hat.get);refine Go.qxd (λa (_:Unit)=>V.put id2 a) (λ_=>True) (v2,ps2.map encP++junk2) () (λ_ _ _ _=>rfl) trivial ?_;have o1:∀(a:Nat×List (List Ce)) (fr:Fr) (x:Opd),x.ev fr=some (.c (.ptr L.c L.vc 0 1))->aop (.load false 1 x) fr (V.put id2 a)=some (.c (.sl L.d L.vd 0 db.length (db.length+L.junk.length)),V.put id2 a):=λa fr x hx=>wz hx (hcA a) rfl (yal _);have o2:∀(a:Nat×List (List Ce)) (fr:Fr) (x y:Opd),x.ev fr=some (.c (.sl L.d L.vd 0 db.length (db.length+L.junk.length)))->y.ev fr=some (.c (.int .i64 (k:Int)))->aop (.iaddr 1 x y) fr (V.put id2 a)=some (.c (.ptr L.d L.vd (0+k) 0),V.put id2 a):=λa fr x y hx hy=>jp hx hy rfl hk2 (hdA a) (jal hk3) rfl;have o3:∀(a:Nat×List (List Ce)) (fr:Fr) (x:Opd),x.ev fr=some (.c (.ptr L.d L.vd (0+k) 0))->aop (.load false 1 x) fr (V.put id2 a)=some (.c xs[k],V.put id2 a):=λa fr x hx=>wz hx (hdA a) (jal hk3) (yal _);repeat' first|(apply Qx.op;exact rfl;(first|exactλa _ _=>o1 a _ _ rfl|exactλa _ _=>o2 a _ _ _ rfl rfl|exactλa _ _=>o3 a _ _ rfl|exactλ_ _ _=>rfl))
  have cd2:=cd.ext (jf9 hat.get);refine Qx.call (λr a'=>∃junk',Jk 2 junk'/\r=.c (vec id2 v2 ((ps2.filter λr=> !(r.1.id==id)).map encP) junk')/\a'=(v2,(ps2.filter λr=> !(r.1.id==id)).map encP++junk')) rfl rfl rfl (λ_ _=>cd2.mono ?_) ?_
  ·rintro r V9 ⟨junk',hj',rfl,rfl⟩;exact⟨_,⟨junk',hj',rfl,rfl⟩,rfl⟩
  rintro r a' ⟨junk',hj',rfl,rfl⟩;refine .nil ?_;show Go _ _ _ _ _ _ _ (V.put id2 (v2,(ps2.filter λr=> !(r.1.id==id)).map encP++junk'));generalize hfe:(ps2.filter λr=> !(r.1.id==id))=pf at hdrop;have hne2:id2≠L.d:=q4;have hH2:ju L n s (xs.set k (vec id2 v2 (pf.map encP) junk')) (db.set k ⟨jx db[k].rows id⟩) ((V.put id2 (v2,pf.map encP++junk')).put L.d (L.vd,(cells xs++L.junk).set (0+k) [vec id2 v2 (pf.map encP) junk'])):=by
   refine h.upd hl2 hk3 (new:=λ_=>none) (yag _) (λa ha hne hno=>?_) ?_ ?_
   ·exact(if_neg hne).trans (if_neg λe=>hno ⟨none,by rw[e];exact hat.own⟩)
   ·rw[jgy hk3];exact jap
   ·refine .sl _ pf id2 v2 junk' hdrop ((if_neg hne2).trans jap) hj' (.inl hat.own) λp hp=>?_;have hm:p∈ps2:=by rw[<-hfe]at hp;exact(List.mem_filter.1 hp).1
    refine⟨(hat.vl p hm).1.frame λa ha=>(if_neg ?_).trans (if_neg ?_),λa ha=>.inl ((hat.vl p hm).2 a ha)⟩
    ·exact((hat.vl p hm).2 a ha).2.2.2.2
    ·exact hat.ne hm ha
  have hK2:Kept n V ((V.put id2 (v2,pf.map encP++junk')).put L.d (L.vd,(cells xs++L.junk).set (0+k) [vec id2 v2 (pf.map encP) junk'])):=(Kept.put q1).trans (.put h.nd);repeat' first|refine X ?_|((first|apply yG|apply yH|apply yI);exact rfl;(first|exact jp rfl rfl rfl hk2 (hdA _) (jal hk3) rfl|exact zch rfl rfl (hdA _) (jal hk3) (yal _)))|exact yaF|refine yaS ?_ ?_<;>intro _
  have cw:=zgz hs hr hk (keyF s[k].key db[k].rows[j].vals) [] true .nils .gone (λv hv=>by cases hv) (hs.key0 _ (yaa hk)) _ _ _ hH2 hset;refine .call _ rfl rfl rfl cw ?_;rintro r9 V9 ⟨hr9,hk9,hq9⟩;rw[hr9];repeat' first|refine X ?_|exact yaF|refine yaS ?_ ?_<;>intro _
  exact .ret rfl ⟨rfl,hK2.trans hk9,hq9⟩
end Go.Proofs.YtedaadaaibofaaaGreat.Am
namespace Go.Proofs.YtedaadaaibofaaaGreat.Am
variable {I:Nat->Int->Prop}

theorem jgz(t:wc)(vals:List Val)(hl:vals.length=t.cols.length)(h0:vals≠[])(hc:t.cols.length<=8):Pure Tryz.prog 234 [.agg (ja t),.c (.fz (vals.map encV))] (.c (.fz ((jg t 0 vals).map encV))):=by
 refine NewV.pure λG=>Ok.run mixed jd1 gz λhS hA=>?_;clear hA hS;have cm:=jan vals h0 O (E G []);repeat' first|refine X ?_|exact yaF|refine yaS ?_ ?_<;>intro _
 refine .call _ rfl rfl rfl cm ?_;rintro q V9 ⟨v,junk,hj,hq,ht⟩;rw[hq,ht,E_E];repeat' first|refine X ?_|exact yaF|refine yaS ?_ ?_<;>intro _
 refine Go.keep [2,5,10,11,12] (Go.loops (I:=λm fr V=>∃(i:Nat) (k:Int) (cur:List Val),m=vals.length-i/\i<=vals.length/\k=i/\(cur.length=vals.length/\jg t 0 vals=cur.take i++jg t i (cur.drop i))/\
  fr=[(2,.c (.fp (ja t))),(5,.c (vec (G.next+0) v (vals.map encV) junk)),(10,.c (vec (G.next+0) v (vals.map encV) junk)),(11,.c (.int .i64 ((vals.map encV).length:Int))),(12,.c (.int .i64 k))]/\V=E G [(v,cur.map encV++junk)]) ?_ _ _ _ ⟨0,_,vals,rfl,yac _,rfl,⟨rfl,gx⟩,rfl,rfl⟩)
 rintro m fr V ⟨i,k,cur,rfl,hi,hk,⟨hcl,hst⟩,rfl,rfl⟩ hrec;rw[yae]at hrec⊢;by_cases hlt:i<vals.length
 ·have hlc:i<t.cols.length:=O;have hi2:i<cur.length:=O;have him:i<(vals.map encV).length:=by rw[yae];exact hlt
  have hnn:zt t (i:Int)=t.cols[i].notNull:=by rw[zt,ybf,yaf hlc]
  have hdf:je0 t i=t.cols[i].dflt:=by rw[je0,yaf hlc]
  rw[yab hi2,jg,hnn,hdf]at hst;have hsame:jg t 0 vals=cur.take i++cur[i]::jg t (i+1) (cur.drop (i+1))->jg t 0 vals=cur.take (i+1)++jg t (i+1) (cur.drop (i+1)):=λh=>by rw[h,yah hi2,ybo];rfl
  have hat:((cur.map encV)++junk)[0+i]?=some (encV cur[i]):=zak hi2;have hgE:(E G [(v,cur.map encV++junk)]).get (G.next+0)=some (v,cur.map encV++junk):=by rw[E_at];rfl
  by_cases hz:cur[i].k=0
  ·cases hb:t.cols[i].notNull
   ·rw[hb,ybk,if_neg yai]at hst;repeat' first|refine X ?_|((first|apply yG|apply yH|apply yI);exact rfl;(first|exact w5 (k:=0) rfl rfl hk him rfl hat rfl|exact jba rfl hgE hat rfl|exact yax wd hk hlc))|exact yaF|refine yaS ?_ ?_<;>intro _
    all_goals first
     |exact Go.keep [2,5,10,11,12] (hrec _ _ _ O ⟨i+1,_,cur,rfl,hlt,jc hk O,⟨hcl,hsame hst⟩,rfl,rfl⟩)
     |(exfalso;simp_all;done)
   ·rw[hb,hz,if_pos gb]at hst;repeat' first|refine X ?_|((first|apply yG|apply yH|apply yI);exact rfl;(first|exact w5 (k:=0) rfl rfl hk him rfl hat rfl|exact jba rfl hgE hat rfl|exact yax wd hk hlc|exact wj (k:=0) rfl rfl rfl rfl hat rfl gz))|exact yaF|refine yaS ?_ ?_<;>intro _
    all_goals first
     |(refine Go.keep [2,5,10,11,12] (hrec _ _ _ O ⟨i+1,_,cur.set i t.cols[i].dflt,rfl,hlt,jc hk O,⟨by rw[yaqq];exact hcl, ?_⟩,rfl, ?_⟩)
       ·rw[hst,yah (by rw[yaqq];exact hi2),List.take_set_of_le (yag _),List.getElem_set_self,List.drop_set_of_lt (yal _),ybo]
        rfl
       ·exact congrArg (E G) (congrArg (λz=>[(v,z)]) (jbz hi2 _ t.cols[i].dflt)))
     |(exfalso;simp_all;done)
  ·rw[beq_eq_false_iff_ne.2 hz,ybc,if_neg yai]at hst;repeat' first|refine X ?_|((first|apply yG|apply yH|apply yI);exact rfl;(first|exact w5 (k:=0) rfl rfl hk him rfl hat rfl|exact jba rfl hgE hat rfl|exact yax wd hk hlc))|exact yaF|refine yaS ?_ ?_<;>intro _
   all_goals first
    |exact Go.keep [2,5,10,11,12] (hrec _ _ _ O ⟨i+1,_,cur,rfl,hlt,jc hk O,⟨hcl,hsame hst⟩,rfl,rfl⟩)
    |(exfalso;simp_all;done)
 ·clear hrec;rw[yad O,jg,ybb,yapq O]at hst;repeat' first|refine X ?_|exact yaF|refine yaS ?_ ?_<;>intro _
  refine .ret rfl ?_;rw[hst];have hvv:vec (G.next+0) v (vals.map encV) junk=vec (G.next+0) v (cur.map encV) junk:=by rw[vec,vec,yae,yae,hcl]
  rw[hvv];exact jcr jaa hj
theorem wfo(t:wc)(vals:List Val)(hl:vals.length=t.cols.length)(ht:wgw t)(hb:j6 34359738368 t):Pure Tryz.prog 235 [.agg (ja t),.c (.fz (vals.map encV))] (.c (.int .i64 (zbs t vals))):=by
 refine yaq [2] jfa λG=>?_;have c1:=wic t vals hl ht.cols8;have c2:=jgx t vals (yaj ht.chk3 gb) (λc hc=>(hb.2.2.2.2.1.2 c hc).1) (by rw[hl];exact yaj ht.cols8 gb);rw[zbs];generalize zan t 0 vals=a at c1⊢;generalize t.checks.any (zau vals)=b at c2⊢
 cases a
 ·cases b
  ·repeat' first|refine X ?_|refine yaC (c1) ?_|refine yaC (c2) ?_|exact yaF|refine yaS ?_ ?_<;>intro _
   exact .ret rfl (.int rfl)
  ·repeat' first|refine X ?_|refine yaC (c1) ?_|refine yaC (c2) ?_|exact yaF|refine yaS ?_ ?_<;>intro _
   exact .ret rfl (.int rfl)
 ·repeat' first|refine X ?_|refine yaC (c1) ?_|refine yaC (c2) ?_|exact yaF|refine yaS ?_ ?_<;>intro _
  exact .ret rfl (.int rfl)
theorem wif{l:List RowD}(hr:Rise l){j:Nat}(hj:j<l.length){x:RowD}(hx:l[j].id=x.id):setRow l x=l.set j x:=by
 refine List.ext_getElem (by rw[setRow,yae,yaqq]) λi h1 h2=>?_;have hi:i<l.length:=by rw[yaqq]at h2;exact h2
 rw[List.getElem_set];simp only[setRow,List.getElem_map];have h3:=List.pairwise_iff_getElem.1 hr;by_cases e:j=i
 ·subst e;rw[if_pos (beq_iff_eq.2 hx),if_pos rfl]
 ·rw[if_neg e,if_neg];intro he;have he:=beq_iff_eq.1 he;rcases Nat.lt_trichotomy i j with h|h|h
  ·have:=h3 i j hi hj h;omega
  ·omega
  ·have:=h3 j i hj hi h;omega
theorem At.set{L:ChL}{n:Nat}{s:List wc}{xs:List Ce}{db:List Data}{V:jb}(h:ju L n s xs db V){k:Nat}(hk:k<db.length)(hk2:k<xs.length){lab:Nat->Nat×Option Int}{ps:List PRow}{id2 v2:Nat}{junk2:List (List Ce)}(hat:At L n k lab V db[k].rows xs[k] ps id2 v2 junk2)
 (hl:∀i (h:i<xs.length) (h2:i<db.length),Tb V (Own L n V.next lab i) db[i].rows xs[i]) (hr:Rise db[k].rows) {j:Nat} (hj:j<db[k].rows.length) {id:Int} (hid:db[k].rows[j].id=id) (vals:List Val) {v:Nat} {junk:List (List Ce)} (hjk:Jk 3 junk):
 ju L n s xs (db.set k ⟨setRow db[k].rows ⟨id,vals⟩⟩) ((E V [(v,vals.map encV++junk)]).put id2 (v2,(ps.map encP++junk2).set (0+j) (wg (encP (ps[j]'(by rw[hat.len];exact hj))) 1 [vec (V.next+0) v (vals.map encV) junk]))):=by
 have hj2:j<ps.length:=by rw[hat.len];exact hj
 obtain⟨_,q1,q2,q3,q4⟩:=hat.own;have hps:(ps.map encP++junk2).set (0+j) (wg (encP ps[j]) 1 [vec (V.next+0) v (vals.map encV) junk])=(ps.set j (⟨id,vals⟩,vec (V.next+0) v (vals.map encV) junk)).map encP++junk2:=by
  have h1:wg (encP ps[j]) 1 [vec (V.next+0) v (vals.map encV) junk]=encP (⟨id,vals⟩,vec (V.next+0) v (vals.map encV) junk):=by
   have h2:ps[j].1.id=id:=by rw[hat.row hj];exact hid
   simp only[encP,wg,h2]
   rfl
  rw[h1,Nat.zero_add,List.set_append_left _ _ (by simpa using hj2),List.map_set]
 rw[hps];have h9:xs=xs.set k xs[k]:=(List.set_getElem_self hk2).symm;have hng:∀{a:Nat},a<V.next->a≠id2->((E V [(v,vals.map encV++junk)]).put id2 (v2,(ps.set j (⟨id,vals⟩,vec (V.next+0) v (vals.map encV) junk)).map encP++junk2)).get a=V.get a:=λha hne=>(if_neg hne).trans (E_lt ha);have hE:(E V [(v,vals.map encV++junk)]).next=V.next+1:=rfl;have main:=h.upd hl hk2 (V2:=(E V [(v,vals.map encV++junk)]).put id2 (v2,(ps.set j (⟨id,vals⟩,vec (V.next+0) v (vals.map encV) junk)).map encP++junk2)) (x:=xs[k]) (rows:=setRow db[k].rows ⟨id,vals⟩) (new:=λ_=>some id) (by show V.next<=V.next+1;omega) (λa ha hne hno=>?_) ?_ ?_
 ·rw[<-h9]at main;exact main
 ·exact hng ha λe=>hno ⟨none,by rw[e];exact hat.own⟩
 ·rw[<-h9,hng h.ld (Ne.symm q4)];exact h.d
 ·have hx:=hat.x;generalize hxx:xs[k]=x at hx⊢;subst hx;have e0:vec id2 v2 (ps.map encP) junk2=vec id2 v2 ((ps.set j (⟨id,vals⟩,vec (V.next+0) v (vals.map encV) junk)).map encP) junk2:=by simp[vec]
  rw[e0];refine .sl _ (ps.set j (⟨id,vals⟩,vec (V.next+0) v (vals.map encV) junk)) id2 v2 junk2 ?_ jap hat.jk (.inl hat.own) λp hp=>?_
  ·rw[wif hr hj hid,List.map_set,hat.rows]
  ·rcases ybj hp with hm|rfl
   ·exact⟨(hat.vl p hm).1.frame λa ha=>hng ((hat.vl p hm).2 a ha).2.2.1 (hat.ne hm ha),λa ha=>.inl ((hat.vl p hm).2 a ha)⟩
   ·refine⟨.sl vals _ v junk ((if_neg O).trans ?_) hjk,λa ha=>.inr ?_⟩
    ·rw[E_at]
     rfl
    ·cases ha;exact⟨yag _,by show V.next+0<V.next+1;omega,rfl⟩
end Go.Proofs.YtedaadaaibofaaaGreat.Am
namespace Go.Proofs.YtedaadaaibofaaaGreat.Am
variable {I:Nat->Int->Prop}

variable {run:Chg->List Data->Res}{deep:Int}
theorem whm{s:List wc}(hs:SchG s)(hr:wdo I s run (IntKind.i64.wrap (deep+1)))(hd:deep<=12){n:Nat}(hn:n<s.length)(id:Int)(db:List Data)(x:RowD)(h:DbG I s db)(hx:jac (jm db n) id=some x):
 Pure Tryz.prog 257 [.c (.fz (s.map ja)),.c (.fz (db.map wa)),.c (.int .i64 (n:Int)),.c (.int .i64 id),.c (.int .i64 deep)] (resV (zu run s n (keyF s[n].key x.vals) [] true (db.set n ⟨jx (jm db n) id⟩))):=by
 refine yas jbi λG=>?_;have hn2:n<db.length:=by rw[h.len];exact hn
 have hR:=h.rows n hn hn2;have ht:=hs.tab _ (yaa hn);rw[je hn2]at hx⊢;have c1:=jau db[n] id (yaj hR.len gb);rcases jn db[n].rows id with⟨_,hx2⟩|⟨j,hj,hx1,hx2⟩
 ·rw[hx2]at hx
  cases hx
 ·rw[hx2]at hx;injection hx with hx;subst hx;rw[hx1]at c1;have hfit:=hR.fit _ (yaa hj);have c2:=ja9 s[n].key db[n].rows[j].vals (hs.big _ (yaa hn)).2.2.1 (by rw[hfit.1];exact ht.key);have c3:=ji3 db[n] id hR.len;have c4:=jcd db (n:Int) n ⟨jx db[n].rows id⟩ rfl hn2 (by rw[h.len];exact yaj hs.few gb);have hset:DbG I s (db.set n ⟨jx db[n].rows id⟩):=h.set hn (hR.drop id);have c5:=zb0 hs hr hn (keyF s[n].key db[n].rows[j].vals) [] true .nils .gone (λv hv=>by cases hv) (db.set n ⟨jx db[n].rows id⟩) hset;generalize zu run s n (keyF s[n].key db[n].rows[j].vals) [] true (db.set n ⟨jx db[n].rows id⟩)=q at c5⊢;generalize db.set n ⟨jx db[n].rows id⟩=db2 at c4 c5;generalize keyF s[n].key db[n].rows[j].vals=key at c2 c5;generalize w6 s[n].key db[n].rows[j].vals=wh at c2;by_cases hq:q.2=0
  ·rw[j7 hq]at c5;repeat' first|apply Go.seq|apply Go.skip|apply Go.region|apply Go.nil|apply Go.block|apply Go.blk|apply Go.segs|(apply Go.exit;exact rfl)|(apply Go.cond true;exact rfl)|(apply Go.cond false;exact rfl)|apply yB|apply yC|((first|apply yD|apply yE);(first|exact yF|assumption);iterate 6 exact rfl)|((first|apply yG|apply yH|apply yI);exact rfl;(first|exact yJ|exact yK rfl rfl|exact yL rfl|exact yM rfl|exact rfl|exact aL rfl rfl rfl rfl rfl|exact aS rfl rfl rfl rfl rfl rfl rfl))|((first|apply yN|apply yO|apply yP);exact rfl)|exact yaF|(((first|apply yT|apply yU|apply yV|apply yW);exact rfl;(first|exact .d|exact .e|exact .n|((fail_if_success exact bqt);(fail_if_success exact bqf);exact .b)))<;>intro _)
   apply Go.draw;refine Go.qkd [] ?_;repeat' first|(apply Qk.nil;show Go _ _ _ _ _ _ _ _)|(apply Qk.op;exact rfl;(first|(rintro _ ⟨_,rfl⟩;exact rfl)|(rintro _ ⟨_,rfl⟩;exact jaq rfl rfl rfl (yan rfl) rfl)|(rintro _ ⟨_,rfl⟩;exact yax wa rfl hn2)|(rintro _ ⟨_,rfl⟩;exact yax wb rfl hj)))|(apply Qk.no;exact rfl)|(apply Qk.pcall;(iterate 3 exact rfl);(first|exact c1))|(apply Qk.wop;exact rfl;exact rfl;(first|exact yJ|exact yL rfl|exact wj rfl rfl rfl rfl rfl rfl (yan rfl));exact⟨_,rfl⟩)
   repeat' first|apply Go.seq|apply Go.skip|apply Go.region|apply Go.nil|apply Go.blk|apply Go.draw|apply Go.segs|(apply Go.exit;exact rfl)|(apply Go.cond true;exact rfl)|(apply Go.cond false;exact rfl)|apply yB|apply yC|((first|apply yD|apply yE);(first|exact yF|assumption);iterate 6 exact rfl)|((first|apply yG|apply yH|apply yI);exact rfl;(first|exact yJ|exact yK rfl rfl|exact yL rfl|exact yM rfl|exact rfl|exact aL rfl rfl rfl rfl rfl|exact aS rfl rfl rfl rfl rfl rfl rfl|exact yax wa rfl hn2|exact yax ja rfl hn))|((first|apply yN|apply yO|apply yP);exact rfl)|((first|apply yQ|apply yR|apply yS);(iterate 3 exact rfl);(first|exact c2|exact c3|exact c4|exact c5))|exact yaF|(((first|apply yT|apply yU|apply yV|apply yW);exact rfl;(first|exact .d|exact .e|exact .n|((fail_if_success exact bqt);(fail_if_success exact bqf);exact .b)))<;>intro _)
   exact .ret rfl (Fin.same (j7 hq).symm (zh q _))
  ·obtain⟨e,he⟩:∃e,q.2=e:=⟨_,rfl⟩;rw[he]at hq;rw[zab he hq]at c5;repeat' first|apply Go.seq|apply Go.skip|apply Go.region|apply Go.nil|apply Go.block|apply Go.blk|apply Go.segs|(apply Go.exit;exact rfl)|(apply Go.cond true;exact rfl)|(apply Go.cond false;exact rfl)|apply yB|apply yC|((first|apply yD|apply yE);(first|exact yF|assumption);iterate 6 exact rfl)|((first|apply yG|apply yH|apply yI);exact rfl;(first|exact yJ|exact yK rfl rfl|exact yL rfl|exact yM rfl|exact rfl|exact aL rfl rfl rfl rfl rfl|exact aS rfl rfl rfl rfl rfl rfl rfl))|((first|apply yN|apply yO|apply yP);exact rfl)|exact yaF|(((first|apply yT|apply yU|apply yV|apply yW);exact rfl;(first|exact .d|exact .e|exact .n|((fail_if_success exact bqt);(fail_if_success exact bqf);exact .b)))<;>intro _)
   apply Go.draw;refine Go.qkd [] ?_;repeat' first|(apply Qk.nil;show Go _ _ _ _ _ _ _ _)|(apply Qk.op;exact rfl;(first|(rintro _ ⟨_,rfl⟩;exact rfl)|(rintro _ ⟨_,rfl⟩;exact jaq rfl rfl rfl (yan rfl) rfl)|(rintro _ ⟨_,rfl⟩;exact yax wa rfl hn2)|(rintro _ ⟨_,rfl⟩;exact yax wb rfl hj)))|(apply Qk.no;exact rfl)|(apply Qk.pcall;(iterate 3 exact rfl);(first|exact c1))|(apply Qk.wop;exact rfl;exact rfl;(first|exact yJ|exact yL rfl|exact wj rfl rfl rfl rfl rfl rfl (yan rfl));exact⟨_,rfl⟩)
   repeat' first|apply Go.seq|apply Go.skip|apply Go.region|apply Go.nil|apply Go.blk|apply Go.draw|apply Go.segs|(apply Go.exit;exact rfl)|(apply Go.cond true;exact rfl)|(apply Go.cond false;exact rfl)|apply yB|apply yC|((first|apply yD|apply yE);(first|exact yF|assumption);iterate 6 exact rfl)|((first|apply yG|apply yH|apply yI);exact rfl;(first|exact yJ|exact yK rfl rfl|exact yL rfl|exact yM rfl|exact rfl|exact aL rfl rfl rfl rfl rfl|exact aS rfl rfl rfl rfl rfl rfl rfl|exact yax wa rfl hn2|exact yax ja rfl hn))|((first|apply yN|apply yO|apply yP);exact rfl)|((first|apply yQ|apply yR|apply yS);(iterate 3 exact rfl);(first|exact c2|exact c3|exact c4|exact c5))|exact yaF|(((first|apply yT|apply yU|apply yV|apply yW);exact rfl;(first|exact .d|exact .e|exact .n|((fail_if_success exact bqt);(fail_if_success exact bqf);exact .b)))<;>intro _)
   exact .ret rfl (Fin.same (zab he hq).symm (zh q _))
set_option maxHeartbeats 4000000 in
theorem zhn{s:List wc}(hs:SchG s)(hr:wdo I s run (IntKind.i64.wrap (deep+1)))(hd:deep<=12){n:Nat}(hn:n<s.length)(id:Int)(vals0:List Val)(rep:Bool)(db:List Data)(h:DbG I s db)(hl:vals0.length=s[n].cols.length)(hv:jo vals0 16=true):
 Pure Tryz.prog 259 [.c (.fz (s.map ja)),.c (.fz (db.map wa)),.c (.int .i64 (n:Int)),.c (.int .i64 id),.c (.fz (vals0.map encV)),.c (.bool rep),.c (.int .i64 deep)] (resV (updF run s n id (if rep then jg s[n] 0 vals0 else vals0) rep db)):=by
 refine yas wbi λG=>?_;have hn2:n<db.length:=by rw[h.len];exact hn
 have ht:=hs.tab _ (yaa hn);have hb:=hs.big _ (yaa hn);have cF:=we2 s[n] vals0 hl ht.cols8;have hvv:=we1 hs hn hl hv rep;rw[updF,wq hn]
 cases hrp:rep
 ·rw[hrp]at hvv;simp only[Bool.false_eq_true,if_false]at hvv;rw[if_neg yai];clear cF hl hv;obtain⟨vals,hve⟩:∃vals,vals=vals0:=⟨_,rfl⟩;subst hve;repeat' first|refine X ?_|((first|apply yG|apply yH|apply yI);exact rfl;(first|exact yax ja rfl hn))|exact yaF|refine yaS ?_ ?_<;>intro _
  have ca:=zdo s[n] vals hvv.1 ht hvv.2;by_cases hab:zbs s[n] vals=0
  ·rw[hab]at ca;rw[if_pos hab];repeat' first|refine X ?_|refine yaC (ca) ?_|exact yaF|refine yaS ?_ ?_<;>intro _
   clear ca;have cc:=wc0 hs hr hn ⟨id,vals⟩ hvv.1 rep db h;have hkc:=λ(h2:(z4 run s[n] n ⟨id,vals⟩ rep db).2=0)=>zbe hr.keeps hn (t:=s[n]) (x:=⟨id,vals⟩) (rep:=rep) h h2;rw[hrp]at cc hkc;generalize z4 run s[n] n ⟨id,vals⟩ _ db=c at cc hkc⊢;by_cases hc0:c.2=0
   ·rw[j7 hc0]at cc;have hdb:=hkc hc0;have hup:∀old,jac (jm c.1 n) id=some old->upd1 run s n id vals c=upd3 s n id (upd2 run s n id vals old c.1):=λold ho=>by rw[upd1,if_pos hc0,ho]
    have hup0:jac (jm c.1 n) id=none->upd1 run s n id vals c=([],9):=λho=>by rw[upd1,if_pos hc0,ho]
    generalize upd1 run s n id vals c=U at hup hup0⊢;generalize c.1=db1 at cc hdb hup hup0;clear hkc;have hn1:n<db1.length:=by rw[hdb.len];exact hn
    have hR1:=hdb.rows n hn hn1;rw[je hn1]at hup hup0;have c1:=jau db1[n] id (yaj hR1.len gb);rcases jn db1[n].rows id with⟨hx1,hx2⟩|⟨j,hj,hx1,hx2⟩
    ·rw[hx1]at c1;rw[hup0 hx2];repeat' first|refine X ?_|((first|apply yG|apply yH|apply yI);exact rfl;(first|exact yax wa rfl hn1))|refine yaC (cc) ?_|refine yaC (c1) ?_|exact yaF|refine yaS ?_ ?_<;>intro _
     exact .ret rfl (Fin.same rfl (zh ([],9) _))
    ·rw[hx1]at c1;rw[hup _ hx2];clear hup hup0;have hfit:=hR1.fit _ (yaa hj);have hidx:db1[n].rows[j].id=id:=(zac hx2).2;have c2:=ja9 s[n].key db1[n].rows[j].vals hb.2.2.1 (by rw[hfit.1];exact ht.key);have c3:=ja9 s[n].key vals hb.2.2.1 (by rw[hvv.1];exact ht.key);have c4:=je3 db1[n] ⟨id,vals⟩ hR1.len;rw[ze3 hR1.rise ⟨_,yaa hj,hidx⟩]at c4;have c5:=jcd db1 (n:Int) n ⟨setRow db1[n].rows ⟨id,vals⟩⟩ rfl hn1 (by rw[hdb.len];exact yaj hs.few gb);have c6:=wa8 (keyF s[n].key db1[n].rows[j].vals) (keyF s[n].key vals) (by rw[wat];exact hb.2.2.1);have hset:DbG I s (db1.set n ⟨setRow db1[n].rows ⟨id,vals⟩⟩):=hdb.set hn (hR1.set (x:=⟨id,vals⟩) hvv);rw[upd2,wq hn,je hn1];have hkv:=jdd ht hvv.1 hvv.2;have hw:With false (.fz ((keyF s[n].key vals).map encV)) (keyF s[n].key vals) s[n].key.length:=.now (by rw[wat];exact yag _);generalize db1.set n ⟨setRow db1[n].rows ⟨id,vals⟩⟩=db2 at c5 hset⊢;generalize w6 s[n].key db1[n].rows[j].vals=wh1 at c2;generalize w6 s[n].key vals=wh2 at c3;generalize keyF s[n].key db1[n].rows[j].vals=kold at c2 c6⊢;generalize keyF s[n].key vals=knew at c3 c6 hkv hw⊢;by_cases hkk:kold=knew
     ·have hdb2:=hset;rw[show(kold==knew)=true from beq_iff_eq.2 hkk]at c6;rw[if_pos hkk,upd3,if_pos rfl];repeat' first|refine X ?_|((first|apply yG|apply yH|apply yI);exact rfl;(first|exact yax wa rfl hn1|exact yax wb rfl hj))|refine yaC (cc) ?_|refine yaC (c1) ?_|refine yaC (c2) ?_|refine yaC (c3) ?_|refine yaC (c4) ?_|refine yaC (c5) ?_|refine yaC (c6) ?_|exact yaF|refine yaS ?_ ?_<;>intro _
      clear cc c1 c2 c3 c4 c5 c6;have hn4:n<db2.length:=by rw[hdb2.len];exact hn
      have hR4:=hdb2.rows n hn hn4;have c8:=jau db2[n] id (yaj hR4.len gb);rcases jn db2[n].rows id with⟨g1,g2⟩|⟨j2,hj2,g1,g2⟩
      ·have hlast:za0 s n id db2=(db2,0):=by rw[za0,je hn4,g2]
       rw[hlast];rw[g1]at c8;repeat' first|refine X ?_|((first|apply yG|apply yH|apply yI);exact rfl;(first|exact yax wa rfl hn4))|refine yaC (c8) ?_|exact yaF|refine yaS ?_ ?_<;>intro _
       exact .ret rfl (Fin.same rfl (zh (db2,0) _))
      ·have hlast:za0 s n id db2=if(s[n].fks.any λf=>zl s db2 false db2[n].rows[j2].vals f)=true then([],5)else(db2,0):=by rw[za0,je hn4,g2,wq hn]
       rw[hlast];rw[g1]at c8;have c9:=waz s db2 (n:Int) n db2[n].rows[j2].vals true (yaj hs.few gb) rfl hn ht.fk3 (fkR hs hdb2 hn (hR4.fit _ (yaa hj2)).1);have e9:s[n].fks.any (zl s db2 (!true) db2[n].rows[j2].vals)=s[n].fks.any λf=>zl s db2 false db2[n].rows[j2].vals f:=rfl;rw[e9]at c9;generalize (s[n].fks.any λf=>zl s db2 false db2[n].rows[j2].vals f)=B at c9⊢
       cases B
       ·rw[if_neg yai];repeat' first|refine X ?_|((first|apply yG|apply yH|apply yI);exact rfl;(first|exact yax wa rfl hn4|exact yax wb rfl hj2))|refine yaC (c8) ?_|refine yaC (c9) ?_|exact yaF|refine yaS ?_ ?_<;>intro _
        exact .ret rfl (Fin.same rfl (zh (db2,0) _))
       ·rw[if_pos rfl];repeat' first|refine X ?_|((first|apply yG|apply yH|apply yI);exact rfl;(first|exact yax wa rfl hn4|exact yax wb rfl hj2))|refine yaC (c8) ?_|refine yaC (c9) ?_|exact yaF|refine yaS ?_ ?_<;>intro _
        exact .ret rfl (Fin.same rfl (zh ([],5) _))
     ·rw[show(kold==knew)=false from beq_eq_false_iff_ne.2 hkk]at c6;rw[if_neg hkk];have c7:=zb0 hs hr hn kold knew false _ hw hkv db2 hset;have hkq:=λ(h4:(zu run s n kold knew false db2).2=0)=>zap (n:=n) (key:=kold) (gone:=false) hr.keeps hkv hset h4;generalize zu run s n kold knew false db2=q at c7 hkq⊢;rw[upd3];by_cases hq:q.2=0
      ·rw[j7 hq]at c7;rw[if_pos hq];have hdb3:=hkq hq;generalize q.1=db3 at c7 hdb3⊢;repeat' first|refine X ?_|((first|apply yG|apply yH|apply yI);exact rfl;(first|exact yax wa rfl hn1|exact yax wb rfl hj))|refine yaC (cc) ?_|refine yaC (c1) ?_|refine yaC (c2) ?_|refine yaC (c3) ?_|refine yaC (c4) ?_|refine yaC (c5) ?_|refine yaC (c6) ?_|refine yaC (c7) ?_|exact yaF|refine yaS ?_ ?_<;>intro _
       clear cc c1 c2 c3 c4 c5 c6 c7;have hn4:n<db3.length:=by rw[hdb3.len];exact hn
       have hR4:=hdb3.rows n hn hn4;have c8:=jau db3[n] id (yaj hR4.len gb);rcases jn db3[n].rows id with⟨g1,g2⟩|⟨j2,hj2,g1,g2⟩
       ·have hlast:za0 s n id db3=(db3,0):=by rw[za0,je hn4,g2]
        rw[hlast];rw[g1]at c8;repeat' first|refine X ?_|((first|apply yG|apply yH|apply yI);exact rfl;(first|exact yax wa rfl hn4))|refine yaC (c8) ?_|exact yaF|refine yaS ?_ ?_<;>intro _
        exact .ret rfl (Fin.same rfl (zh (db3,0) _))
       ·have hlast:za0 s n id db3=if(s[n].fks.any λf=>zl s db3 false db3[n].rows[j2].vals f)=true then([],5)else(db3,0):=by rw[za0,je hn4,g2,wq hn]
        rw[hlast];rw[g1]at c8;have c9:=waz s db3 (n:Int) n db3[n].rows[j2].vals true (yaj hs.few gb) rfl hn ht.fk3 (fkR hs hdb3 hn (hR4.fit _ (yaa hj2)).1);have e9:s[n].fks.any (zl s db3 (!true) db3[n].rows[j2].vals)=s[n].fks.any λf=>zl s db3 false db3[n].rows[j2].vals f:=rfl;rw[e9]at c9;generalize (s[n].fks.any λf=>zl s db3 false db3[n].rows[j2].vals f)=B at c9⊢
        cases B
        ·rw[if_neg yai];repeat' first|refine X ?_|((first|apply yG|apply yH|apply yI);exact rfl;(first|exact yax wa rfl hn4|exact yax wb rfl hj2))|refine yaC (c8) ?_|refine yaC (c9) ?_|exact yaF|refine yaS ?_ ?_<;>intro _
         exact .ret rfl (Fin.same rfl (zh (db3,0) _))
        ·rw[if_pos rfl];repeat' first|refine X ?_|((first|apply yG|apply yH|apply yI);exact rfl;(first|exact yax wa rfl hn4|exact yax wb rfl hj2))|refine yaC (c8) ?_|refine yaC (c9) ?_|exact yaF|refine yaS ?_ ?_<;>intro _
         exact .ret rfl (Fin.same rfl (zh ([],5) _))
      ·obtain⟨e,he⟩:∃e,q.2=e:=⟨_,rfl⟩;rw[he]at hq;rw[zab he hq]at c7;rw[he,if_neg hq];repeat' first|refine X ?_|((first|apply yG|apply yH|apply yI);exact rfl;(first|exact yax wa rfl hn1|exact yax wb rfl hj))|refine yaC (cc) ?_|refine yaC (c1) ?_|refine yaC (c2) ?_|refine yaC (c3) ?_|refine yaC (c4) ?_|refine yaC (c5) ?_|refine yaC (c6) ?_|refine yaC (c7) ?_|exact yaF|refine yaS ?_ ?_<;>intro _
       exact .ret rfl (Fin.same (wa5 hq).symm (zh ([],e) _))
   ·obtain⟨e,he⟩:∃e,c.2=e:=⟨_,rfl⟩;rw[he]at hc0;rw[zab he hc0]at cc;rw[upd1,he,if_neg hc0];repeat' first|refine X ?_|refine yaC (cc) ?_|exact yaF|refine yaS ?_ ?_<;>intro _
    exact .ret rfl (Fin.same (wa5 hc0).symm (zh ([],e) _))
  ·rw[if_neg hab];generalize zbs s[n] vals=e at ca hab⊢;repeat' first|refine X ?_|refine yaC (ca) ?_|exact yaF|refine yaS ?_ ?_<;>intro _
   exact .ret rfl (Fin.same (wa5 hab).symm (zh ([],e) _))
 ·rw[hrp]at hvv;simp only[if_true]at hvv;rw[if_pos rfl];generalize jg s[n] 0 vals0=vals at cF hvv⊢;repeat' first|refine X ?_|((first|apply yG|apply yH|apply yI);exact rfl;(first|exact yax ja rfl hn))|refine yaC (cF) ?_|exact yaF|refine yaS ?_ ?_<;>intro _
  have ca:=zdo s[n] vals hvv.1 ht hvv.2;by_cases hab:zbs s[n] vals=0
  ·rw[hab]at ca;rw[if_pos hab];repeat' first|refine X ?_|refine yaC (ca) ?_|exact yaF|refine yaS ?_ ?_<;>intro _
   clear ca;have cc:=wc0 hs hr hn ⟨id,vals⟩ hvv.1 rep db h;have hkc:=λ(h2:(z4 run s[n] n ⟨id,vals⟩ rep db).2=0)=>zbe hr.keeps hn (t:=s[n]) (x:=⟨id,vals⟩) (rep:=rep) h h2;rw[hrp]at cc hkc;generalize z4 run s[n] n ⟨id,vals⟩ _ db=c at cc hkc⊢;by_cases hc0:c.2=0
   ·rw[j7 hc0]at cc;have hdb:=hkc hc0;have hup:∀old,jac (jm c.1 n) id=some old->upd1 run s n id vals c=upd3 s n id (upd2 run s n id vals old c.1):=λold ho=>by rw[upd1,if_pos hc0,ho]
    have hup0:jac (jm c.1 n) id=none->upd1 run s n id vals c=([],9):=λho=>by rw[upd1,if_pos hc0,ho]
    generalize upd1 run s n id vals c=U at hup hup0⊢;generalize c.1=db1 at cc hdb hup hup0;clear hkc;have hn1:n<db1.length:=by rw[hdb.len];exact hn
    have hR1:=hdb.rows n hn hn1;rw[je hn1]at hup hup0;have c1:=jau db1[n] id (yaj hR1.len gb);rcases jn db1[n].rows id with⟨hx1,hx2⟩|⟨j,hj,hx1,hx2⟩
    ·rw[hx1]at c1;rw[hup0 hx2];repeat' first|refine X ?_|((first|apply yG|apply yH|apply yI);exact rfl;(first|exact yax wa rfl hn1))|refine yaC (cc) ?_|refine yaC (c1) ?_|exact yaF|refine yaS ?_ ?_<;>intro _
     exact .ret rfl (Fin.same rfl (zh ([],9) _))
    ·rw[hx1]at c1;rw[hup _ hx2];clear hup hup0;have hfit:=hR1.fit _ (yaa hj);have hidx:db1[n].rows[j].id=id:=(zac hx2).2;have c2:=ja9 s[n].key db1[n].rows[j].vals hb.2.2.1 (by rw[hfit.1];exact ht.key);have c3:=ja9 s[n].key vals hb.2.2.1 (by rw[hvv.1];exact ht.key);have c4:=je3 db1[n] ⟨id,vals⟩ hR1.len;rw[ze3 hR1.rise ⟨_,yaa hj,hidx⟩]at c4;have c5:=jcd db1 (n:Int) n ⟨setRow db1[n].rows ⟨id,vals⟩⟩ rfl hn1 (by rw[hdb.len];exact yaj hs.few gb);have c6:=wa8 (keyF s[n].key db1[n].rows[j].vals) (keyF s[n].key vals) (by rw[wat];exact hb.2.2.1);have hset:DbG I s (db1.set n ⟨setRow db1[n].rows ⟨id,vals⟩⟩):=hdb.set hn (hR1.set (x:=⟨id,vals⟩) hvv);rw[upd2,wq hn,je hn1];have hkv:=jdd ht hvv.1 hvv.2;have hw:With false (.fz ((keyF s[n].key vals).map encV)) (keyF s[n].key vals) s[n].key.length:=.now (by rw[wat];exact yag _);generalize db1.set n ⟨setRow db1[n].rows ⟨id,vals⟩⟩=db2 at c5 hset⊢;generalize w6 s[n].key db1[n].rows[j].vals=wh1 at c2;generalize w6 s[n].key vals=wh2 at c3;generalize keyF s[n].key db1[n].rows[j].vals=kold at c2 c6⊢;generalize keyF s[n].key vals=knew at c3 c6 hkv hw⊢;by_cases hkk:kold=knew
     ·have hdb2:=hset;rw[show(kold==knew)=true from beq_iff_eq.2 hkk]at c6;rw[if_pos hkk,upd3,if_pos rfl];repeat' first|refine X ?_|((first|apply yG|apply yH|apply yI);exact rfl;(first|exact yax wa rfl hn1|exact yax wb rfl hj))|refine yaC (cc) ?_|refine yaC (c1) ?_|refine yaC (c2) ?_|refine yaC (c3) ?_|refine yaC (c4) ?_|refine yaC (c5) ?_|refine yaC (c6) ?_|exact yaF|refine yaS ?_ ?_<;>intro _
      clear cc c1 c2 c3 c4 c5 c6;have hn4:n<db2.length:=by rw[hdb2.len];exact hn
      have hR4:=hdb2.rows n hn hn4;have c8:=jau db2[n] id (yaj hR4.len gb);rcases jn db2[n].rows id with⟨g1,g2⟩|⟨j2,hj2,g1,g2⟩
      ·have hlast:za0 s n id db2=(db2,0):=by rw[za0,je hn4,g2]
       rw[hlast];rw[g1]at c8;repeat' first|refine X ?_|((first|apply yG|apply yH|apply yI);exact rfl;(first|exact yax wa rfl hn4))|refine yaC (c8) ?_|exact yaF|refine yaS ?_ ?_<;>intro _
       exact .ret rfl (Fin.same rfl (zh (db2,0) _))
      ·have hlast:za0 s n id db2=if(s[n].fks.any λf=>zl s db2 false db2[n].rows[j2].vals f)=true then([],5)else(db2,0):=by rw[za0,je hn4,g2,wq hn]
       rw[hlast];rw[g1]at c8;have c9:=waz s db2 (n:Int) n db2[n].rows[j2].vals true (yaj hs.few gb) rfl hn ht.fk3 (fkR hs hdb2 hn (hR4.fit _ (yaa hj2)).1);have e9:s[n].fks.any (zl s db2 (!true) db2[n].rows[j2].vals)=s[n].fks.any λf=>zl s db2 false db2[n].rows[j2].vals f:=rfl;rw[e9]at c9;generalize (s[n].fks.any λf=>zl s db2 false db2[n].rows[j2].vals f)=B at c9⊢
       cases B
       ·rw[if_neg yai];repeat' first|refine X ?_|((first|apply yG|apply yH|apply yI);exact rfl;(first|exact yax wa rfl hn4|exact yax wb rfl hj2))|refine yaC (c8) ?_|refine yaC (c9) ?_|exact yaF|refine yaS ?_ ?_<;>intro _
        exact .ret rfl (Fin.same rfl (zh (db2,0) _))
       ·rw[if_pos rfl];repeat' first|refine X ?_|((first|apply yG|apply yH|apply yI);exact rfl;(first|exact yax wa rfl hn4|exact yax wb rfl hj2))|refine yaC (c8) ?_|refine yaC (c9) ?_|exact yaF|refine yaS ?_ ?_<;>intro _
        exact .ret rfl (Fin.same rfl (zh ([],5) _))
     ·rw[show(kold==knew)=false from beq_eq_false_iff_ne.2 hkk]at c6;rw[if_neg hkk];have c7:=zb0 hs hr hn kold knew false _ hw hkv db2 hset;have hkq:=λ(h4:(zu run s n kold knew false db2).2=0)=>zap (n:=n) (key:=kold) (gone:=false) hr.keeps hkv hset h4;generalize zu run s n kold knew false db2=q at c7 hkq⊢;rw[upd3];by_cases hq:q.2=0
      ·rw[j7 hq]at c7;rw[if_pos hq];have hdb3:=hkq hq;generalize q.1=db3 at c7 hdb3⊢;repeat' first|refine X ?_|((first|apply yG|apply yH|apply yI);exact rfl;(first|exact yax wa rfl hn1|exact yax wb rfl hj))|refine yaC (cc) ?_|refine yaC (c1) ?_|refine yaC (c2) ?_|refine yaC (c3) ?_|refine yaC (c4) ?_|refine yaC (c5) ?_|refine yaC (c6) ?_|refine yaC (c7) ?_|exact yaF|refine yaS ?_ ?_<;>intro _
       clear cc c1 c2 c3 c4 c5 c6 c7;have hn4:n<db3.length:=by rw[hdb3.len];exact hn
       have hR4:=hdb3.rows n hn hn4;have c8:=jau db3[n] id (yaj hR4.len gb);rcases jn db3[n].rows id with⟨g1,g2⟩|⟨j2,hj2,g1,g2⟩
       ·have hlast:za0 s n id db3=(db3,0):=by rw[za0,je hn4,g2]
        rw[hlast];rw[g1]at c8;repeat' first|refine X ?_|((first|apply yG|apply yH|apply yI);exact rfl;(first|exact yax wa rfl hn4))|refine yaC (c8) ?_|exact yaF|refine yaS ?_ ?_<;>intro _
        exact .ret rfl (Fin.same rfl (zh (db3,0) _))
       ·have hlast:za0 s n id db3=if(s[n].fks.any λf=>zl s db3 false db3[n].rows[j2].vals f)=true then([],5)else(db3,0):=by rw[za0,je hn4,g2,wq hn]
        rw[hlast];rw[g1]at c8;have c9:=waz s db3 (n:Int) n db3[n].rows[j2].vals true (yaj hs.few gb) rfl hn ht.fk3 (fkR hs hdb3 hn (hR4.fit _ (yaa hj2)).1);have e9:s[n].fks.any (zl s db3 (!true) db3[n].rows[j2].vals)=s[n].fks.any λf=>zl s db3 false db3[n].rows[j2].vals f:=rfl;rw[e9]at c9;generalize (s[n].fks.any λf=>zl s db3 false db3[n].rows[j2].vals f)=B at c9⊢
        cases B
        ·rw[if_neg yai];repeat' first|refine X ?_|((first|apply yG|apply yH|apply yI);exact rfl;(first|exact yax wa rfl hn4|exact yax wb rfl hj2))|refine yaC (c8) ?_|refine yaC (c9) ?_|exact yaF|refine yaS ?_ ?_<;>intro _
         exact .ret rfl (Fin.same rfl (zh (db3,0) _))
        ·rw[if_pos rfl];repeat' first|refine X ?_|((first|apply yG|apply yH|apply yI);exact rfl;(first|exact yax wa rfl hn4|exact yax wb rfl hj2))|refine yaC (c8) ?_|refine yaC (c9) ?_|exact yaF|refine yaS ?_ ?_<;>intro _
         exact .ret rfl (Fin.same rfl (zh ([],5) _))
      ·obtain⟨e,he⟩:∃e,q.2=e:=⟨_,rfl⟩;rw[he]at hq;rw[zab he hq]at c7;rw[he,if_neg hq];repeat' first|refine X ?_|((first|apply yG|apply yH|apply yI);exact rfl;(first|exact yax wa rfl hn1|exact yax wb rfl hj))|refine yaC (cc) ?_|refine yaC (c1) ?_|refine yaC (c2) ?_|refine yaC (c3) ?_|refine yaC (c4) ?_|refine yaC (c5) ?_|refine yaC (c6) ?_|refine yaC (c7) ?_|exact yaF|refine yaS ?_ ?_<;>intro _
       exact .ret rfl (Fin.same (wa5 hq).symm (zh ([],e) _))
   ·obtain⟨e,he⟩:∃e,c.2=e:=⟨_,rfl⟩;rw[he]at hc0;rw[zab he hc0]at cc;rw[upd1,he,if_neg hc0];repeat' first|refine X ?_|refine yaC (cc) ?_|exact yaF|refine yaS ?_ ?_<;>intro _
    exact .ret rfl (Fin.same (wa5 hc0).symm (zh ([],e) _))
  ·rw[if_neg hab];generalize zbs s[n] vals=e at ca hab⊢;repeat' first|refine X ?_|refine yaC (ca) ?_|exact yaF|refine yaS ?_ ?_<;>intro _
   exact .ret rfl (Fin.same (wa5 hab).symm (zh ([],e) _))
theorem jhn{s:List wc}(hs:SchG s):∀(k:Nat) (deep:Int),-1<=deep->deep+k=13->wdo I s (chgF s k) deep
 |0,deep,hk,hd=>by
  have hd2:deep>12:=O;refine⟨wah hs 0,λn id db x h hn hx=>?_,λn id vals rep db h ho=>?_⟩
  ·refine yas jbi λG=>?_;repeat' first|refine X ?_|exact yaF|refine yaS ?_ ?_<;>intro _
   exact .ret rfl (Fin.same rfl (zh ([],6) _))
  ·refine yas wbi λG=>?_;repeat' first|refine X ?_|exact yaF|refine yaS ?_ ?_<;>intro _
   exact .ret rfl (Fin.same rfl (zh ([],6) _))
 |k+1,deep,hk,hd=>by
  ·have hr:=jhn hs k (IntKind.i64.wrap (deep+1)) (by rw[jh O O];omega) (by rw[jh O O];omega);refine⟨wah hs (k+1),λn id db x h hn hx=>?_,λn id vals rep db h ho=>?_⟩
   ·have h1:=whm hs hr O hn id db x h hx;have h2:chgF s (k+1) (.del n id) db=zu (chgF s k) s n (keyF s[n].key x.vals) [] true (db.set n ⟨jx (jm db n) id⟩):=by rw[chgF,hx,wq hn]
    rw[h2];exact h1
   ·obtain⟨hn,hl,hv⟩:=ho;have h1:=zhn hs hr O hn id vals rep db h hl hv;have h2:chgF s (k+1) (.upd n id vals rep) db=updF (chgF s k) s n id (if rep then jg s[n] 0 vals else vals) rep db:=by rw[chgF,wq hn]
    rw[h2];exact h1
end Go.Proofs.YtedaadaaibofaaaGreat.Am
namespace Go.Proofs.YtedaadaaibofaaaGreat.Am
variable {I:Nat->Int->Prop}

set_option maxHeartbeats 4000000 in
theorem ji5{L:ChL}{n:Nat}{s:List wc}{run:Chg->List Data->Res}{deep:Int}(hs:SchG s)(hr:jfo I L n s run (IntKind.i64.wrap (deep+1)))(hd:deep<=12){k:Nat}(hk:k<s.length)(id:Int)(vals0:List Val)(rep:Bool)(db:List Data)(xs:List Ce)(V:jb)(h:ju L n s xs db V)(hdb:DbG I s db)
 (hl:vals0.length=s[k].cols.length) (hv:jo vals0 16=true):
 Ok Tryz.prog 283 [.c (.ptr L.c L.vc 0 0),.c (.int .i64 (k:Int)),.c (.int .i64 id),.c (.fz (vals0.map encV)),.c (.bool rep),.c (.int .i64 deep)] V (Done L n s (updF run s k id (if rep then jg s[k] 0 vals0 else vals0) rep db) V):=by
 refine Ok.run0 mixed zao gz λhS hA=>?_;clear hS hA;have hk2:k<db.length:=by rw[hdb.len];exact hk
 have hk3:k<xs.length:=by rw[h.len];exact hk2
 have ht:=hs.tab _ (yaa hk);have hb:=hs.big _ (yaa hk);have hne:∀{l:List Val},l.length=s[k].cols.length->l≠[]:=λh1 h0=>by
  rw[h0]at h1;have:=ht.cols0;simp at h1;omega
 have cF:=jgz s[k] vals0 hl (hne hl) ht.cols8;have hvv:=we1 hs hk hl hv rep;rw[updF,wq hk];have hn0:V.next<=V.next:=yag _;repeat' first|refine X ?_|fail
 refine Go.iteD rfl (λh=>absurd h O) λ_=>?_;repeat' first|refine X ?_|((first|apply yG|apply yH|apply yI);exact rfl;(first|exact zde h rfl|exact yax ja rfl hk))
 refine Go.meet (K':=[_]) (λfr V'=>V'=V/\∃vals,vals=(if rep then jg s[k] 0 vals0 else vals0)/\fr=[(0,AV.c (.ptr L.c L.vc 0 0)),(1,.c (.int .i64 (k:Int))),(2,.c (.int .i64 id)),(3,.c (.fz (vals.map encV))),(4,.c (.bool rep)),(5,.c (.int .i64 deep)),(13,.c (.fp (ja s[k])))]) ?_ ?_
 ·intro K hrec
  cases rep
  ·repeat' first|refine X ?_|exact yaF|refine yaS ?_ ?_<;>intro _
   exact Go.keep [0,1,2,3,4,5,13] (hrec _ _ ⟨rfl,_,rfl,rfl⟩)
  ·repeat' first|refine X ?_|refine yaC (cF) ?_|exact yaF|refine yaS ?_ ?_<;>intro _
   exact Go.keep [0,1,2,3,4,5,13] (hrec _ _ ⟨rfl,_,rfl,rfl⟩)
 rintro fr V' ⟨hτ,vals,hve,rfl⟩;rw[hτ];rw[<-hve]at hvv⊢;clear cF hl hv hve hτ;have ca:=wfo s[k] vals hvv.1 ht hb;by_cases hab:zbs s[k] vals=0
 ·rw[hab]at ca;rw[if_pos hab];repeat' first|refine X ?_|refine yaC (ca) ?_|exact yaF|refine yaS ?_ ?_<;>intro _
  clear ca;have cc:=zhy hs hr hk id vals hvv.1 rep db xs V h hdb;have hkc:=λ(h2:(z4 run s[k] k ⟨id,vals⟩ rep db).2=0)=>zbe hr.keeps hk (t:=s[k]) (x:=⟨id,vals⟩) (rep:=rep) hdb h2;generalize z4 run s[k] k ⟨id,vals⟩ rep db=c at cc hkc⊢;refine .call _ rfl rfl rfl cc ?_;rintro r9 V1 ⟨hr9,hk1,hq1⟩;rw[hr9];clear cc hr9;by_cases hc0:c.2=0
  ·obtain⟨xs1,hH1⟩:=hq1 hc0;have hdb1:=hkc hc0;have hup:∀old,jac (jm c.1 k) id=some old->upd1 run s k id vals c=upd3 s k id (upd2 run s k id vals old c.1):=λold ho=>by rw[upd1,if_pos hc0,ho]
   have hup0:jac (jm c.1 k) id=none->upd1 run s k id vals c=([],9):=λho=>by rw[upd1,if_pos hc0,ho]
   generalize upd1 run s k id vals c=U at hup hup0⊢;generalize c.1=db1 at hdb1 hup hup0 hH1;rw[hc0];clear hkc hq1;have hn1:k<db1.length:=by rw[hdb1.len];exact hk
   have hn2:k<xs1.length:=by rw[hH1.len];exact hn1
   have hR1:=hdb1.rows k hk hn1;rw[je hn1]at hup hup0;have cf:=jdo hH1 hn1 hn2 id hR1.len;repeat' first|refine X ?_|exact yaF|refine yaS ?_ ?_<;>intro _
   rcases jn db1[k].rows id with⟨hx1,hx2⟩|⟨j,hj,hx1,hx2⟩
   ·rw[hup0 hx2];refine .call _ rfl rfl rfl (cf.1 hx2) ?_;rintro r9 V9 ⟨hr9,ht9⟩;rw[hr9,ht9];repeat' first|refine X ?_|exact yaF|refine yaS ?_ ?_<;>intro _
    exact .ret rfl ⟨rfl,hk1,λh=>by cases h⟩
   ·rw[hup _ hx2];clear hup hup0;have hfit:=hR1.fit _ (yaa hj);have hidx:db1[k].rows[j].id=id:=(zac hx2).2;obtain⟨lab2,ps2,id2,v2,junk2,hat,hl2⟩:=hH1.some hn1 hn2 (Nat.lt_of_le_of_lt (yac _) hj);obtain⟨_,q1,q2,q3,q4⟩:=hat.own;have ck1:=Lend.fresh (.same (.own (hat.frz hj) .nil)) (wex s[k].key db1[k].rows[j].vals hb.2.2.1 (by rw[hfit.1];exact ht.key));have ck2:=zd9 s[k].key vals hb.2.2.1 (by rw[hvv.1];exact ht.key);have c6:=wdt (keyF s[k].key db1[k].rows[j].vals) (keyF s[k].key vals) (by rw[wat];exact hb.2.2.1);have hkv:=jdd ht hvv.1 hvv.2;have hw:With false (.fz ((keyF s[k].key vals).map encV)) (keyF s[k].key vals) s[k].key.length:=.now (by rw[wat];exact yag _);have hw0:=hs.key0 _ (yaa hk);refine .call _ rfl rfl rfl (cf.2 j hj hx1 _ _ _ _ _ hat) ?_;rintro r9 V9 ⟨hr9,ht9⟩;rw[hr9,ht9];clear hr9 ht9;repeat' first|apply Go.seq|apply Go.skip|apply Go.region|apply Go.nil|apply Go.block|apply Go.blk|apply Go.segs|(apply Go.exit;exact rfl)|(apply Go.cond true;exact rfl)|(apply Go.cond false;exact rfl)|apply yB|apply yC|((first|apply yD|apply yE);(first|exact yF|assumption);iterate 6 exact rfl)|((first|apply yG|apply yH|apply yI);exact rfl;(first|exact yJ|exact yK rfl rfl|exact yL rfl|exact yM rfl|exact rfl|exact aL rfl rfl rfl rfl rfl|exact aS rfl rfl rfl rfl rfl rfl rfl))|((first|apply yN|apply yO|apply yP);exact rfl)|exact yaF|(((first|apply yT|apply yU|apply yV|apply yW);exact rfl;(first|exact .d|exact .e|exact .n|((fail_if_success exact bqt);(fail_if_success exact bqf);exact .b)))<;>intro _)
    apply Go.draw;repeat' first|apply Go.seq|apply Go.skip|apply Go.region|apply Go.nil|apply Go.block|apply Go.blk|apply Go.segs|(apply Go.exit;exact rfl)|(apply Go.cond true;exact rfl)|(apply Go.cond false;exact rfl)|apply yB|apply yC|((first|apply yD|apply yE);(first|exact yF|assumption);iterate 6 exact rfl)|((first|apply yG|apply yH|apply yI);exact rfl;(first|exact yJ|exact yK rfl rfl|exact yL rfl|exact yM rfl|exact rfl|exact aL rfl rfl rfl rfl rfl|exact aS rfl rfl rfl rfl rfl rfl rfl|exact wz rfl hat.get (hat.at hj) (yal _)))|((first|apply yN|apply yO|apply yP);exact rfl)|exact yaF|(((first|apply yT|apply yU|apply yV|apply yW);exact rfl;(first|exact .d|exact .e|exact .n|((fail_if_success exact bqt);(fail_if_success exact bqf);exact .b)))<;>intro _)
    refine Go.scall _ rfl rfl rfl ck1 ?_;rintro r9 V9 ⟨hr9,ht9⟩;rw[hr9,ht9];clear hr9 ht9 ck1;rw[upd2,wq hk,je hn1];have hset:DbG I s (db1.set k ⟨setRow db1[k].rows ⟨id,vals⟩⟩):=hdb1.set hk (hR1.set (x:=⟨id,vals⟩) hvv);generalize w6 s[k].key db1[k].rows[j].vals=wh1;generalize w6 s[k].key vals=wh2 at ck2;generalize keyF s[k].key db1[k].rows[j].vals=kold at c6⊢;generalize keyF s[k].key vals=knew at c6 ck2 hkv hw⊢;repeat' first|refine X ?_|refine yaC (ck2) ?_|exact yaF|refine yaS ?_ ?_<;>intro _
    clear ck2;refine .call _ rfl rfl rfl (jan vals (hne hvv.1) (yaj (ze.1 hvv.2).1 gb) V1) ?_;rintro r9 V9 ⟨v9,junk9,hj9,hr9,ht9⟩;rw[hr9,ht9];clear hr9 ht9;have hge:(E V1 [(v9,vals.map encV++junk9)]).get id2=some (v2,ps2.map encP++junk2):=(E_lt q2).trans hat.get;have hH2:=hat.set hH1 hn1 hn2 hl2 hR1.rise hj hidx vals (v:=v9) hj9;have hK2:Kept n V1 ((E V1 [(v9,vals.map encV++junk9)]).put id2 (v2,(ps2.map encP++junk2).set (0+j) (wg (encP (ps2[j]'(by rw[hat.len];exact hj))) 1 [vec (V1.next+0) v9 (vals.map encV) junk9]))):=(Kept.ofE hH1.le _).trans (.put q1);repeat' first|refine X ?_|((first|apply yG|apply yH|apply yI);exact rfl;(first|exact zch rfl rfl hge (hat.at hj) (yal _)))|exact yaF|refine yaS ?_ ?_<;>intro _
    obtain⟨V2,hτ2⟩:∃V2,V2=(E V1 [(v9,vals.map encV++junk9)]).put id2 (v2,(ps2.map encP++junk2).set (0+j) (wg (encP (ps2[j]'(by rw[hat.len];exact hj))) 1 [vec (V1.next+0) v9 (vals.map encV) junk9])):=⟨_,rfl⟩;refine Go.ext ?_ hτ2;rw[<-hτ2]at hH2 hK2;clear hτ2 hl2 cf;generalize db1.set k ⟨setRow db1[k].rows ⟨id,vals⟩⟩=db2 at hset hH2⊢;obtain⟨U2,hU2⟩:∃U2,U2=upd3 s k id (if kold=knew then(db2,0)else zu run s k kold knew false db2):=⟨_,rfl⟩;rw[<-hU2];have hK3:=hk1.trans hK2;repeat' first|refine X ?_|refine yaC (c6) ?_|fail
    refine Go.meet (K':=[_]) (λfr V'=>∃db3 xs3,U2=za0 s k id db3/\DbG I s db3/\ju L n s xs3 db3 V'/\Kept n V V'/\fr=[(0,AV.c (.ptr L.c L.vc 0 0)),(1,.c (.int .i64 (k:Int))),(2,.c (.int .i64 id)),(13,.c (.fp (ja s[k])))]) ?_ ?_
    ·intro K hrec;by_cases hkk:kold=knew
     ·rw[show(kold==knew)=true from beq_iff_eq.2 hkk];repeat' first|refine X ?_|exact yaF|refine yaS ?_ ?_<;>intro _
      exact Go.keep [0,1,2,13] (hrec _ _ ⟨db2,xs1,by rw[hU2,upd3,if_pos hkk,if_pos rfl],hset,hH2,hK3,rfl⟩)
     ·rw[show(kold==knew)=false from beq_eq_false_iff_ne.2 hkk];rw[if_neg hkk]at hU2;have cw:=zgz hs hr hk kold knew false _ hw hkv hw0 db2 xs1 V2 hH2 hset;have hkq:=λ(h4:(zu run s k kold knew false db2).2=0)=>zap (n:=k) (key:=kold) (gone:=false) hr.keeps hkv hset h4;generalize zu run s k kold knew false db2=q at cw hkq hU2;rw[upd3]at hU2;repeat' first|refine X ?_|exact yaF|refine yaS ?_ ?_<;>intro _
      refine .call _ rfl rfl rfl cw ?_;rintro r9 V9 ⟨hr9,hk9,hq9⟩;rw[hr9];clear hr9 cw;by_cases hq:q.2=0
      ·rw[if_pos hq]at hU2;obtain⟨xs9,hH9⟩:=hq9 hq;rw[hq];repeat' first|refine X ?_|exact yaF|refine yaS ?_ ?_<;>intro _
       exact Go.keep [0,1,2,13] (hrec _ _ ⟨q.1,xs9,hU2,hkq hq,hH9,hK3.trans hk9,rfl⟩)
      ·rw[if_neg hq]at hU2;rw[hU2];generalize q.2=e at hq⊢;repeat' first|refine X ?_|exact yaF|refine yaS ?_ ?_<;>intro _
       exact .ret rfl ⟨rfl,hK3.trans hk9,λh=>absurd h hq⟩
    rintro fr V3 ⟨db3,xs3,hUl,hdb3,hH3,hK4,rfl⟩;rw[hUl];clear hUl hU2 hK3 hH2 hset c6 hw hkv hK2 hH1 hdb1 hR1;have hn4:k<db3.length:=by rw[hdb3.len];exact hk
    have hn5:k<xs3.length:=by rw[hH3.len];exact hn4
    have hR4:=hdb3.rows k hk hn4;have cf3:=jdo hH3 hn4 hn5 id hR4.len;repeat' first|refine X ?_|exact yaF|refine yaS ?_ ?_<;>intro _
    rcases jn db3[k].rows id with⟨g1,g2⟩|⟨j2,hj2,g1,g2⟩
    ·have hlast:za0 s k id db3=(db3,0):=by rw[za0,je hn4,g2]
     rw[hlast];refine .call _ rfl rfl rfl (cf3.1 g2) ?_;rintro r9 V9 ⟨hr9,ht9⟩;rw[hr9,ht9];repeat' first|refine X ?_|exact yaF|refine yaS ?_ ?_<;>intro _
     exact .ret rfl ⟨rfl,hK4,λ_=>⟨xs3,hH3⟩⟩
    ·have hlast:za0 s k id db3=if(s[k].fks.any λf=>zl s db3 false db3[k].rows[j2].vals f)=true then([],5)else(db3,0):=by rw[za0,je hn4,g2,wq hk]
     rw[hlast];obtain⟨lab3,ps3,id3,v3,junk3,hat3,hl3⟩:=hH3.some hn4 hn5 (Nat.lt_of_le_of_lt (yac _) hj2);have c9:=jdv s db3 s[k] db3[k].rows[j2].vals false (yaj hs.few gb) (yaj ht.fk3 gb) (fkR hs hdb3 hk (hR4.fit _ (yaa hj2)).1);have e9:s[k].fks.any (zl s db3 false db3[k].rows[j2].vals)=s[k].fks.any λf=>zl s db3 false db3[k].rows[j2].vals f:=rfl;rw[e9]at c9;generalize (s[k].fks.any λf=>zl s db3 false db3[k].rows[j2].vals f)=B at c9⊢;refine .call _ rfl rfl rfl (cf3.2 j2 hj2 g1 _ _ _ _ _ hat3) ?_;rintro r9 V9 ⟨hr9,ht9⟩;rw[hr9,ht9];clear hr9 ht9;repeat' first|refine X ?_|((first|apply yG|apply yH|apply yI);exact rfl;(first|exact zde hH3 rfl|exact wbs hH3 rfl|exact wz rfl hat3.get (hat3.at hj2) (yal _)))|exact yaF|refine yaS ?_ ?_<;>intro _
     refine Go.slcall rfl rfl rfl c9 (.bool _) (.same (.own hH3.frz (.same (.own (hat3.frz hj2) (.same .nil))))) ?_
     cases B
     ·rw[if_neg yai];repeat' first|refine X ?_|exact yaF|refine yaS ?_ ?_<;>intro _
      exact .ret rfl ⟨rfl,hK4,λ_=>⟨xs3,hH3⟩⟩
     ·rw[if_pos rfl];repeat' first|refine X ?_|exact yaF|refine yaS ?_ ?_<;>intro _
      exact .ret rfl ⟨rfl,hK4,λh=>by cases h⟩
  ·obtain⟨e,he⟩:∃e,c.2=e:=⟨_,rfl⟩;rw[he]at hc0⊢;rw[upd1,he,if_neg hc0];repeat' first|refine X ?_|exact yaF|refine yaS ?_ ?_<;>intro _
   exact .ret rfl ⟨rfl,hk1,λh=>absurd h hc0⟩
 ·rw[if_neg hab];generalize zbs s[k] vals=e at ca hab⊢;repeat' first|refine X ?_|refine yaC (ca) ?_|exact yaF|refine yaS ?_ ?_<;>intro _
  exact .ret rfl ⟨rfl,.refl,λh=>absurd h hab⟩
theorem wi5{L:ChL}{n:Nat}{s:List wc}(hs:SchG s):∀(k:Nat) (deep:Int),-1<=deep->deep+k=13->jfo I L n s (chgF s k) deep
 |0,deep,hk,hd=>by
  have hd2:deep>12:=O;refine⟨wah hs 0,λk id db xs V h hdb hk=>?_,λk id vals rep db xs V h hdb ho=>?_⟩
  ·refine Ok.run0 mixed zaj gz λhS hA=>?_;clear hS hA;repeat' first|refine X ?_|exact yaF|refine yaS ?_ ?_<;>intro _
   exact .ret rfl ⟨rfl,.refl,λh=>by cases h⟩
  ·refine Ok.run0 mixed zao gz λhS hA=>?_;clear hS hA;repeat' first|refine X ?_|exact yaF|refine yaS ?_ ?_<;>intro _
   exact .ret rfl ⟨rfl,.refl,λh=>by cases h⟩
 |k+1,deep,hk,hd=>by
  ·have hr:=wi5 (L:=L) (n:=n) hs k (IntKind.i64.wrap (deep+1)) (by rw[jh O O];omega) (by rw[jh O O];omega);refine⟨wah hs (k+1),λm id db xs V h hdb hm=>?_,λm id vals rep db xs V h hdb ho=>?_⟩
   ·have h1:=jif hs hr O hm id db xs V h hdb;have h2:chgF s (k+1) (.del m id) db=delF (chgF s k) s m id db:=by
     rw[chgF,delF]
     cases jac (jm db m) id<;>rfl
    rw[h2];exact h1
   ·obtain⟨hm,hl,hv⟩:=ho;have h1:=ji5 hs hr O hm id vals rep db xs V h hdb hl hv;have h2:chgF s (k+1) (.upd m id vals rep) db=updF (chgF s k) s m id (if rep then jg s[m] 0 vals else vals) rep db:=by rw[chgF,wq hm]
    rw[h2];exact h1
end Go.Proofs.YtedaadaaibofaaaGreat.Am
namespace Go.Proofs.YtedaadaaibofaaaGreat.Am
def wgz(n:Nat):Ce->Ce
 |.sl id v i m c=>if n<=id then .sl id v i m c else .any
 |.ptr id v i j=>if n<=id then .ptr id v i j else .any
 |.fz _=>.any
 |.fp _=>.any
 |.fn _ _ _=>.any
 |x=>x
variable {n:Nat}{x:Ce}
theorem zig:Tidy n (wgz n x):=by
 cases x<;>simp only[wgz]<;>(try split)<;>first|exact .sl _ _ _ _ _ (by assumption)|exact .ptr _ _ _ _ (by assumption)|exact .flat (by constructor)
theorem jjt(h:Tidy n x):wgz n x=x:=by
 cases h with
 |flat h=>cases h<;>rfl
 |sl id v i m c h=>exact if_pos h
 |ptr id v i j h=>exact if_pos h
theorem Rp.blur{C:Cx}{v:Value}(h:Rp C x v):Rp C (wgz n x) v:=by
 have h1:=h.one
 cases x<;>simp only[wgz]<;>(try split)<;>first|exact h|exact .any _ h1.1 h1.2
def jdf(n:Nat)(es:List (List Ce)):List (List Ce):=es.map λe=>e.map (wgz n)
def jce(n:Nat)(V:jb):jb:=⟨V.next,λa=>if a<n then V.get a else(V.get a).map λy=>(y.1,jdf n y.2)⟩
variable {es:List (List Ce)}
theorem zi6:jdf n es=[]↔es=[]:=by simp[jdf]
theorem wjt(h:∀e∈es,∀x∈e,Tidy n x):jdf n es=es:=by
 have h1:∀e∈es,e.map (wgz n)=e:=λe he=>by
  have:e.map (wgz n)=e.map id:=List.map_congr_left λx hx=>jjt (h e he x hx);rw[this,List.map_id]
 have:jdf n es=es.map id:=List.map_congr_left h1;rw[this,List.map_id]
variable {V:jb}{v:Nat}
theorem wce{a:Nat}(h:(jce n V).get a=some (v,es)):∃es1,V.get a=some (v,es1)/\(es=es1\/es=jdf n es1):=by
 simp only[jce]at h;split at h
 ·exact⟨es,h,.inl rfl⟩
 ·cases hg:V.get a with
  |none=>rw[hg]at h;cases h
  |some y=>
   rw[hg]at h
   cases h;exact⟨y.2,rfl,.inr rfl⟩
theorem jig{a:Nat}(h:V.get a=some (v,es)):∃es2,(jce n V).get a=some (v,es2)/\(es2=es\/es2=jdf n es):=by
 simp only[jce];split
 ·exact⟨es,h,.inl rfl⟩
 ·rw[h];exact⟨_,rfl,.inr rfl⟩
theorem zdp{es1:List (List Ce)}(h:es=es1\/es=jdf n es1):es=[]↔es1=[]:=by
 rcases h with rfl|rfl
 ·exact Iff.rfl
 ·exact zi6
theorem Rl.blur{C:Cx}(h:Rl C V)(n:Nat):Rl C (jce n V):=by
 refine⟨h.F,λid v es hg=>?_,λb=>?_,λid v es id' v' es' h1 n1 h2 n2 hb=>?_,λid v es hg hne=>?_⟩
 ·obtain⟨es1,g1,g2⟩:=wce hg;obtain⟨a1,a2,a3⟩:=h.live id v es1 g1;exact⟨a1,a2,a3.trans (zdp g2).symm⟩
 ·rw[h.M];constructor
  ·rintro⟨id,v,es,hg,hne,hb⟩;obtain⟨es2,g1,g2⟩:=jig (n:=n) hg;exact⟨id,v,es2,g1,λe=>hne ((zdp g2).1 e),hb⟩
  ·rintro⟨id,v,es,hg,hne,hb⟩;obtain⟨es1,g1,g2⟩:=wce hg;exact⟨id,v,es1,g1,λe=>hne ((zdp g2).2 e),hb⟩
 ·obtain⟨e1,g1,g2⟩:=wce h1;obtain⟨e2,k1,k2⟩:=wce h2;exact h.inj id v e1 id' v' e2 g1 (λe=>n1 ((zdp g2).2 e)) k1 (λe=>n2 ((zdp k2).2 e)) hb
 ·obtain⟨es1,g1,g2⟩:=wce hg;obtain⟨cs,t,hb,hz,hl,hc⟩:=h.blk id v es1 g1 λe=>hne ((zdp g2).2 e);rcases g2 with rfl|rfl
  ·exact⟨cs,t,hb,hz,hl,hc⟩
  ·refine⟨cs,t,hb,by simpa [jdf]using hz,λi hi=>?_,λi j hi hj=>?_⟩
   ·have hi2:i<es1.length:=by simpa [jdf]using hi
    have:=hl i hi2;simpa [jdf]using this
   ·have hi2:i<es1.length:=by simpa [jdf]using hi
    have hj2:j<es1[i].length:=by simpa [jdf]using hj
    obtain⟨u,h1,h2⟩:=hc i j hi2 hj2;refine⟨u,h1, ?_⟩;have:=h2.blur (n:=n);simpa [jdf]using this
variable {args:List AV}{G:jb}
theorem Ok.blur{P:Program}{f:Nat}{Q:AV->jb->Prop}(h:Ok P f args G Q)(n:Nat):Ok P f args G (λr V2=>∃V,Q r V/\OldS V/\V2=jce n V):=by
 refine⟨h.1,λC cargs hR ha=>(h.2 C cargs hR ha).mono ?_⟩;rintro e w' ⟨D,G1,r,v,rfl,rfl,hQ,hRD,hx,hle⟩;exact⟨D,jce n G1,r,v,rfl,rfl,⟨G1,hQ,hRD.old,rfl⟩,hRD.blur n,hx,hle⟩
variable {S:Nat->Prop}
theorem Has.blur{y:Ce}(h:Has V S y x){n:Nat}:(∀a,S a->n<=a)->Has (jce n V) S y x:=by
 induction h with
 |c h=>exactλ_=>.c h
 |nil=>exactλ_=>.nil
 |o ys id v s cs junk T hg hS hl hs hall hj hT hd h ih=>
  intro hn;refine .o ys id v s cs junk T ?_ hS hl hs hall hj hT hd λi j hi hj=>ih i j hi hj λa ha=>hn a (hT i j a ha).1;have h1:¬id<n:=Nat.not_lt.2 (hn id hS);simp only[jce,if_neg h1,hg,Option.map_some];rw[wjt];intro e he x hx;rcases List.mem_append.1 he with he|he
  ·obtain⟨i,hi,rfl⟩:=List.mem_iff_getElem.1 he;obtain⟨j,hj2,rfl⟩:=List.mem_iff_getElem.1 hx;exact(h i j O (by rw[<-hs i O];exact hj2)).tidy λa ha=>hn a (hT i j a ha).1
  ·exact .flat (hj e he x hx)
theorem HasV.blur{y x:AV}(h:HasV V S y x){n:Nat}:(∀a,S a->n<=a)->HasV (jce n V) S y x:=by
 induction h with
 |c h=>exactλhn=>.c (h.blur hn)
 |agg h=>
  intro hn;obtain⟨U,h1,h2,h3,h4⟩:=h;exact .agg ⟨U,h1,h2,h3,λj hy hx=>(h4 j hy hx).blur λa ha=>hn a (h2 j a ha)⟩
 |tup U hl hU hd h ih=>exactλhn=>.tup U hl hU hd λi hy hx=>ih i hy hx λa ha=>hn a (hU i a ha)
theorem Gr.blur(h:Kept G.next G V)(ho:OldS V):Gr G (jce G.next V):=by
 have hn:∀a,¬a<V.next->V.get a=none:=λa ha=>by
  cases hg:V.get a with
  |none=>rfl
  |some y=>exact absurd (ho a y hg).1 ha
 let l:List (Nat×List (List Ce)):=(List.range (V.next-G.next)).map λk=>((jce G.next V).get (G.next+k)).getD (0,[])
 have hll:l.length=V.next-G.next:=by simp[l]
 have hnx:=h.next;refine⟨l, ?_,λb hb e he x hx=>?_⟩
 ·refine jb.ext (by rw[jaf,hll];show V.next=_;omega) λa=>?_;by_cases h1:a<G.next
  ·rw[E_lt h1,<-h.get a h1];exact if_pos h1
  ·rw[E_ge h1];by_cases h2:a<V.next
   ·have h3:=h.full a h2 λhh=>absurd hh h1;obtain⟨k,rfl⟩:∃k,a=G.next+k:=⟨a-G.next,O⟩;have h4:k<l.length:=O;rw[Nat.add_sub_cancel_left,yaf h4];simp only[l,List.getElem_map,List.getElem_range]
    cases hg:(jce G.next V).get (G.next+k)with
    |some y=>rfl
    |none=>
     exfalso;simp only[jce,if_neg h1]at hg
     cases hg2:V.get (G.next+k)with
     |none=>rw[hg2]at h3;cases h3
     |some y=>rw[hg2]at hg;cases hg
   ·have h3:=hn a h2;rw[List.getElem?_eq_none O];simp only[jce,if_neg h1,h3,Option.map_none]
 ·obtain⟨k,hk,rfl⟩:=List.mem_map.1 hb
  cases hg:(jce G.next V).get (G.next+k)with
  |none=>rw[hg]at he;cases he
  |some y=>
   rw[hg]at he;simp only[jce,if_neg (show¬G.next+k<G.next by omega)]at hg
   cases hg2:V.get (G.next+k)with
   |none=>rw[hg2]at hg;cases hg
   |some z=>
    rw[hg2]at hg
    cases hg;obtain⟨e1,_,rfl⟩:=List.mem_map.1 he;obtain⟨x1,_,rfl⟩:=List.mem_map.1 hx;exact zig
theorem Ok.newV{P:Program}{f:Nat}{y:AV}(h:Ok P f args G (λr V=>Kept G.next G V/\HasV V (λa=>G.next<=a/\a<V.next) y r)):Ok P f args G (NewV G y):=
 (h.blur G.next).mono λr V2 ⟨V,⟨h1,h2⟩,ho,e⟩=>by
   subst e;exact⟨.blur h1 ho,h2.blur λa ha=>ha.1⟩
theorem Vl.has{vals:List Val}(h:Vl V vals x):Has V (λa=>idOf x=some a) (.fz (vals.map encV)) x:=by
 cases h with
 |nil=>exact .nil
 |sl vals id v junk hg hj=>
  refine .o (vals.map encV) id v 3 (vals.map encV) junk (λ_ _ _=>False) hg rfl rfl (λi hi=>rfl) (λe he=>?_) (λe he x hx=>(hj e he).2 x hx) (λ_ _ _ h=>h.elim) (λ_ _ _ _ _ h=>h.elim) (λi j hi hj=>.c ((ze2 _ (yaa hi)).2 _ (yaa hj)));rcases List.mem_append.1 he with he|he
  ·exact(ze2 e he).1
  ·exact(hj e he).1
variable {rows:List RowD}
theorem Tb.has{L:ChL}{i:Nat}{lab:Nat->Nat×Option Int}(h:Tb V (Own L n V.next lab i) rows x)(hr:Rise rows):Has V (λa=>∃w,Own L n V.next lab i w a) (.fz (rows.map wb)) x:=by
 cases h with
 |sl ps id v junk hrw hg hj h0 hp=>
  subst hrw;have e0:(ps.map encP).length=((ps.map (·.1)).map wb).length:=gx;have hinj:∀j j' (h1:j<ps.length) (h2:j'<ps.length),ps[j].1.id=ps[j'].1.id->j=j':=λj j' h1 h2 he=>by
   have h3:=List.pairwise_iff_getElem.1 hr;rcases Nat.lt_trichotomy j j' with h|h|h
   ·have:=h3 j j' (by simpa using h1) (by simpa using h2) h;simp only[List.getElem_map]at this;exact absurd he (by intro e;omega)
   ·exact h
   ·have:=h3 j' j (by simpa using h2) (by simpa using h1) h;simp only[List.getElem_map]at this;exact absurd he (by intro e;omega)
  rw[vec,e0];refine .o (S:=λa=>∃w,Own L n V.next lab i w a) ((ps.map (·.1)).map wb) id v 2 (ps.map encP) junk (λj c a=>c=1/\∃hj:j<ps.length,Own L n V.next lab i (some ps[j].1.id) a) hg ⟨none,h0⟩ gx (λj hj=>?_) (λe he=>?_) (λe he x hx=>(hj e he).2 x hx) (λj c a ha=>?_) (λj c j' c' a h1 h2=>?_) (λj c hj hc=>?_)
  ·simp[encP,wb]
  ·rcases List.mem_append.1 he with he|he
   ·obtain⟨p,_,rfl⟩:=List.mem_map.1 he
    rfl
   ·exact(hj e he).1
  ·obtain⟨rfl,hj,ha⟩:=ha;refine⟨⟨_,ha⟩,λe=>?_⟩;subst e;have:=ha.1.symm.trans h0.1
   cases this
  ·obtain⟨rfl,hj,ha⟩:=h1;obtain⟨rfl,hj',ha'⟩:=h2;have:=ha.1.symm.trans ha'.1;injection this with _ h3;injection h3 with h3;exact⟨hinj j j' hj hj' h3,rfl⟩
  ·have hj2:j<ps.length:=by simpa using hj
   have e1:(ps.map encP)[j]'(by simpa using hj2)=encP ps[j]:=gx;have e2:((ps.map (·.1)).map wb)[j]'hj=wb ps[j].1:=gx;have hc2:c<2:=by rw[e2]at hc;exact hc
   simp only[e1,e2];have hc3:c=0\/c=1:=O;rcases hc3 with rfl|rfl
   ·exact .c (.int _ _)
   ·obtain⟨h1,h2⟩:=hp _ (yaa hj2);exact h1.has.mono λa ha=>⟨rfl,hj2,h2 a ha⟩
variable {s:List wc}{xs:List Ce}{db:List Data}
theorem ju.has{L:ChL}(h:ju L n s xs db V)(hr:∀d∈db,Rise d.rows):Has V (λa=>n<=a/\a<V.next/\a≠L.c) (.fz (db.map wa)) (.sl L.d L.vd 0 db.length (db.length+L.junk.length)):=by
 obtain⟨lab,hl⟩:=h.tb;have e0:db.length=(db.map wa).length:=(yae _).symm;rw[e0];refine .o (S:=λa=>n<=a/\a<V.next/\a≠L.c) (db.map wa) L.d L.vd 1 (cells xs) L.junk (λi j a=>j=0/\∃w,Own L n V.next lab i w a) h.d (show n<=L.d/\L.d<V.next/\L.d≠L.c from⟨h.nd,h.ld,Ne.symm h.cd⟩) (by simp[cells,h.len]) (λi hi=>by simp[cells,wa]) (λe he=>?_) (λe he x hx=>(h.jk e he).2 x hx) (λi j a ha=>?_) (λi j i' j' a h1 h2=>?_) (λi j hi hj=>?_)
 ·rcases List.mem_append.1 he with he|he
  ·obtain⟨x,_,rfl⟩:=List.mem_map.1 he
   rfl
  ·exact(h.jk e he).1
 ·obtain⟨_,w,hw⟩:=ha;exact⟨⟨hw.2.1,hw.2.2.1,hw.2.2.2.1⟩,hw.2.2.2.2⟩
 ·obtain⟨q1,w,hw⟩:=h1;obtain⟨q2,w',hw'⟩:=h2;have:=hw.1.symm.trans hw'.1;injection this with h3 _;exact⟨h3,O⟩
 ·have hi2:i<db.length:=by simpa using hi
  have hi3:i<xs.length:=by rw[h.len];exact hi2
  have hj0:j=0:=by
   simp[wa]at hj;exact hj
  subst hj0;have h1:=(hl i hi3 hi2).has (hr _ (yaa hi2));have e1:((db.map wa)[i]'hi)[0]'hj=.fz (db[i].rows.map wb):=by simp[wa]
  have e2:((cells xs)[i]'(by simpa [cells]using hi3))[0]'(by simp[cells])=xs[i]:=by simp[cells]
  rw[e1,e2];exact h1.mono λa ha=>⟨rfl,ha⟩
variable {junk:List (List Ce)}
theorem jhy{fr:Fr}{s bytes id:Nat}{x y:Opd}{ys:List (List Ce)}{e:List Ce}(hx:x.ev fr=some (.c (vec id v ys junk)))(hy:y.ev fr=some (.c (.fz [e])))(hg:V.get id=some (v,ys++junk))(hys:∀q∈ys,q.length=s)(hj:Jk s junk)(he:e.length=s)(hb:(ys.length+1)*bytes<=140737488355328):
 ∃v' junk',Jk s junk'/\aop (.app s bytes x y) fr V=some (.c (vec id v' (ys++[e]) junk'),V.put id (v',ys++[e]++junk')):=by
 have hall1:∀q∈[e],q.length=s:=λq hq=>by rw[List.mem_singleton.1 hq];exact he
 have hall:∀q∈ys++junk,q.length=s:=λq hq=>by
  rcases List.mem_append.1 hq with hq|hq
  ·exact hys q hq
  ·exact(hj q hq).1
 by_cases c:1<=junk.length
 ·refine⟨v,junk.drop 1,λq hq=>hj q (ybl hq), ?_⟩;have e2:wg (ys++junk) (0+ys.length) [e]=ys++[e]++junk.drop 1:=by
   simp only[wg,Nat.zero_add,List.length_singleton];rw[List.take_left' rfl,List.drop_append];rw[yad O,Nat.add_sub_cancel_left];simp
  have h1:appA V s bytes (vec id v ys junk) [e]=some (vec id v (ys++[e]) (junk.drop 1),V.put id (v,ys++[e]++junk.drop 1)):=by
   unfold appA;rw[if_pos hall1];simp only[vec,hg];rw[if_pos ⟨trivial,gx,O,hall⟩,if_pos (by simp only[List.length_singleton];omega),e2];simp only[List.length_append,List.length_singleton,List.length_drop];rw[show ys.length+1+(junk.length-1)=ys.length+junk.length by omega]
  simp only[aop,hx,hy,jb.els,Option.bind_some,h1,Option.map_some]
 ·refine⟨v+1,[],Jk.nil, ?_⟩;have e3:(List.drop 0 (ys++junk)).take ys.length=ys:=by rw[List.drop_zero,List.take_left' rfl]
  have h1:appA V s bytes (vec id v ys junk) [e]=some (vec id (v+1) (ys++[e]) [],V.put id (v+1,ys++[e]++[])):=by
   unfold appA;rw[if_pos hall1];simp only[vec,hg];rw[if_pos ⟨trivial,gx,O,hall⟩,if_neg (by simp only[List.length_singleton];omega),if_pos (by simpa using hb),e3];simp
  simp only[aop,hx,hy,jb.els,Option.bind_some,h1,Option.map_some]
theorem ji6{fr:Fr}{s:Nat}{z:List Ce}:aop (.mksl false s 0 z []) fr V=some (.c (vec V.next 0 [] []),V.new (0,[])):=rfl
section
variable {P:Program}{n0 nt:Nat}{rets:List RV}{R:AV->jb->Prop}{K:List AK}{fr:Fr}{V:jb}
variable {d:Option Nat}{g:Option (Nat×Bool)}{ys:List (List Ce)}{e:List Ce}
theorem Go.appO{rest:List zd}{s bytes id:Nat}{x y:Opd}(hw:wants fr g=some true)(hx:x.ev fr=some (.c (vec id v ys junk)))(hy:y.ev fr=some (.c (.fz [e])))(hg:V.get id=some (v,ys++junk))(hys:∀q∈ys,q.length=s)(hj:Jk s junk)(he:e.length=s)(hb:(ys.length+1)*bytes<=140737488355328)
 (h:∀v' junk',Jk s junk'->Go P n0 nt rets R (.ops rest::K) (putA fr d (.c (vec id v' (ys++[e]) junk'))) (V.put id (v',ys++[e]++junk'))):Go P n0 nt rets R (.ops (⟨d,.op (.app s bytes x y),g⟩::rest)::K) fr V:=
 let⟨_,_,h1,h2⟩:=jhy hx hy hg hys hj he hb
 .op hw h2 (h _ _ h1)
theorem Go.sappO{rest:List (List zd)}{s bytes id:Nat}{x y:Opd}(hw:wants fr g=some true)(hx:x.ev fr=some (.c (vec id v ys junk)))(hy:y.ev fr=some (.c (.fz [e])))(hg:V.get id=some (v,ys++junk))(hys:∀q∈ys,q.length=s)(hj:Jk s junk)(he:e.length=s)(hb:(ys.length+1)*bytes<=140737488355328)
 (h:∀v' junk',Jk s junk'->Go P n0 nt rets R (.segs rest::K) (putA fr d (.c (vec id v' (ys++[e]) junk'))) (V.put id (v',ys++[e]++junk'))):Go P n0 nt rets R (.segs ([⟨d,.op (.app s bytes x y),g⟩]::rest)::K) fr V:=
 let⟨_,_,h1,h2⟩:=jhy hx hy hg hys hj he hb
 .sop hw h2 (h _ _ h1)
end
theorem zfp:cells xs++[[x]]=cells (xs++[x]):=by
 show _=List.map _ (xs++[x]);rw[yak]
 rfl
theorem Kept.new{y:Nat×List (List Ce)}(h:n<=V.next):Kept n V (V.new y):=⟨ybg _,λa ha=>if_neg O,λa ha hs=>by
 show(if a=V.next then _ else _:Option _).isSome=true;split
 ·rfl
 ·exact hs (by have:a<V.next+1:=ha;omega)⟩
structure DbT(n:Nat)(V:jb)(db:List Data)(o vo:Nat)(xs:List Ce)(junk:List (List Ce)):Prop where
 get:V.get o=some (vo,cells xs++junk)
 jk:Jk 1 junk
 len:xs.length=db.length
 no:n<=o
 lo:o<V.next
 tb:∃lab:Nat->Nat×Option Int,∀i (h:i<xs.length) (h2:i<db.length),Tb V (λw a=>lab a=(i,w)/\n<=a/\a<V.next/\a≠o) db[i].rows xs[i]
structure wi6(n:Nat)(V0 V:jb)(rows:List RowD)(m v:Nat)(ps:List PRow)(junk:List (List Ce))(new:Nat->Option Int):Prop where
 get:V.get m=some (v,ps.map encP++junk)
 jk:Jk 2 junk
 rows:ps.map (·.1)=rows
 lt:m<V.next
 vl:∀p∈ps,Vl V p.1.vals p.2/\∀a,idOf p.2=some a->m<a/\a<V.next/\new a=some p.1.id
 old:∀a,a<m->V.get a=V0.get a
 kept:Kept n V0 V
theorem wi6.push{V0:jb}{m:Nat}{ps:List PRow}{new:Nat->Option Int}(h:wi6 n V0 V rows m v ps junk new)(hn:n<=m)(r:RowD){v9 v':Nat}{junk9 junk':List (List Ce)}(hj9:Jk 3 junk9)(hj:Jk 2 junk'):
 wi6 n V0 ((E V [(v9,r.vals.map encV++junk9)]).put m (v',ps.map encP++[[.int .i64 r.id,vec (V.next+0) v9 (r.vals.map encV) junk9]]++junk')) (rows++[r]) m v' (ps++[(r,vec (V.next+0) v9 (r.vals.map encV) junk9)]) junk' (λa=>if a<V.next then new a else some r.id):=by
 have hlt:=h.lt;have hE:(E V [(v9,r.vals.map encV++junk9)]).next=V.next+1:=rfl;refine⟨?_,hj,by rw[yak,h.rows];rfl,by show m<V.next+1;omega,λp hp=>?_,λa ha=>(if_neg O).trans ((E_lt O).trans (h.old a ha)),h.kept.trans ((Kept.ofE O _).trans (.put hn))⟩
 ·rw[yak];exact jap
 ·rcases List.mem_append.1 hp with hp|hp
  ·obtain⟨h1,h2⟩:=h.vl p hp;refine⟨h1.frame λa ha=>(if_neg (by have:=h2 a ha;omega)).trans (E_lt (h2 a ha).2.1),λa ha=>?_⟩;obtain⟨h3,h4,h5⟩:=h2 a ha;refine⟨h3,by show a<V.next+1;omega, ?_⟩;show(if a<V.next then new a else some r.id)=_;rw[if_pos h4];exact h5
  ·rw[List.mem_singleton.1 hp];refine⟨.sl r.vals _ v9 junk9 ((if_neg O).trans (by rw[E_at];rfl)) hj9,λa ha=>?_⟩
   cases ha;refine⟨O,by show V.next+0<V.next+1;omega, ?_⟩;show(if V.next+0<V.next then new (V.next+0)else some r.id)=_;rw[if_neg O]
theorem DbT.push{V0:jb}{o vo vo':Nat}{junk':List (List Ce)}(h:DbT n V0 db o vo xs junk){rows:List RowD}{v:Nat}{ps:List PRow}{junk2:List (List Ce)}{new:Nat->Option Int}(k:wi6 n V0 V rows V0.next v ps junk2 new)(hn:n<=V0.next)(hj:Jk 1 junk'):
 DbT n (V.put o (vo',cells xs++[[vec V0.next v (ps.map encP) junk2]]++junk')) (db++[⟨rows⟩]) o vo' (xs++[vec V0.next v (ps.map encP) junk2]) junk':=by
 have hlo:=h.lo;have hlt:=k.lt;obtain⟨lab,hl⟩:=h.tb;refine⟨by rw[<-zfp];exact jap,hj,by rw[yay,yay,h.len];rfl,h.no,by show o<V.next;omega,⟨λa=>if a<V0.next then lab a else if a=V0.next then(db.length,none)else(db.length,new a),λi hi hi2=>?_⟩⟩;by_cases e:i<db.length
 ·have e2:i<xs.length:=by rw[h.len];exact e
  rw[yasq e2,yasq e];refine(hl i e2 e).frame (λw a ha=>⟨?_,ha.2.1,by show a<V.next;have:=ha.2.2.1;omega,ha.2.2.2⟩) λw a ha=>(if_neg ha.2.2.2).trans (k.old a ha.2.2.1);show(if a<V0.next then lab a else _)=_;rw[if_pos ha.2.2.1];exact ha.1
 ·have hie:i=db.length:=by simp at hi2;omega
  subst hie;have e1:(db++[(⟨rows⟩:Data)])[db.length]'hi2=⟨rows⟩:=by rw[List.getElem_append_right (Nat.le_refl _)];simp
  have e2:(xs++[vec V0.next v (ps.map encP) junk2])[db.length]'hi=vec V0.next v (ps.map encP) junk2:=by rw[List.getElem_append_right (by rw[h.len];exact Nat.le_refl _)];simp[h.len]
  rw[e1,e2];refine .sl _ ps _ v junk2 k.rows ((if_neg O).trans k.get) k.jk ⟨?_,hn,hlt,O⟩ λp hp=>?_
  ·show(if V0.next<V0.next then _ else if V0.next=V0.next then _ else _)=_;rw[if_neg (Nat.lt_irrefl _),if_pos rfl]
  ·obtain⟨h1,h2⟩:=k.vl p hp;refine⟨h1.frame λa ha=>if_neg (by have:=h2 a ha;omega),λa ha=>?_⟩;obtain⟨h3,h4,h5⟩:=h2 a ha;refine⟨?_,O,h4,O⟩;show(if a<V0.next then _ else if a=V0.next then _ else _)=_;rw[if_neg O,if_neg O,h5]
set_option maxHeartbeats 1000000 in
theorem jbe(db:List Data)(hd:db.length<=60)(hr:∀d∈db,d.rows.length<=60/\∀r∈d.rows,r.vals≠[]/\r.vals.length<=34359738368)(G:jb):Ok Tryz.prog 186 [.c (.fz (db.map wa))] G (λr V=>∃o vo xs junk,r=.c (vec o vo (cells xs) junk)/\Kept G.next G V/\DbT G.next V db o vo xs junk):=by
 refine Ok.run0 mixed wc5 gz λhS hA=>?_;clear hS hA;repeat' first|refine X ?_|((first|apply yG|apply yH|apply yI);exact rfl;(first|exact ji6))|exact yaF|refine yaS ?_ ?_<;>intro _
 refine Go.keep [3,10,11,12] (Go.loops (I:=λm fr V=>∃(i:Nat) (k:Int) (vo:Nat) (xs:List Ce) (junk:List (List Ce)),m=db.length-i/\i<=db.length/\k=i/\(Kept G.next G V/\DbT G.next V (db.take i) G.next vo xs junk)/\
  fr=[(3,.c (vec G.next vo (cells xs) junk)),(10,.c (.fz (db.map wa))),(11,.c (.int .i64 (db.length:Int))),(12,.c (.int .i64 k))]) ?_ _ _ _ ⟨0,_,0,[],[],rfl,yac _,rfl,⟨.new (yag _),⟨if_pos rfl,Jk.nil,rfl,yag _,yal _,⟨λ_=>(0,none),λi h=>by cases h⟩⟩⟩,rfl⟩)
 rintro m fr V ⟨i,k,vo,xs,junk,rfl,hi,hk,⟨hK,hD⟩,rfl⟩ hrec;by_cases hlt:i<db.length
 ·obtain⟨hr1,hr2⟩:=hr _ (yaa hlt);have hn0:G.next<=V.next:=hK.next;have htk:db.take (i+1)=db.take i++[⟨db[i].rows⟩]:=yah hlt;repeat' first|refine X ?_|((first|apply yG|apply yH|apply yI);exact rfl;(first|exact yax wa hk hlt|exact ji6))|exact yaF|refine yaS ?_ ?_<;>intro _
  refine Go.keep [3,6,10,11,12,18,19,20] (Go.loops (I:=λm fr V'=>∃(j:Nat) (kj:Int) (v:Nat) (ps:List PRow) (junk2:List (List Ce)) (new:Nat->Option Int),m=db[i].rows.length-j/\j<=db[i].rows.length/\kj=j/\wi6 G.next V V' (db[i].rows.take j) V.next v ps junk2 new/\
   fr=[(3,.c (vec G.next vo (cells xs) junk)),(6,.c (vec V.next v (ps.map encP) junk2)),(10,.c (.fz (db.map wa))),(11,.c (.int .i64 (db.length:Int))),(12,.c (.int .i64 k)),(18,.c (.fz (db[i].rows.map wb))),(19,.c (.int .i64 (db[i].rows.length:Int))),(20,.c (.int .i64 kj))]) ?_ _ _ _ ⟨0,_,0,[],[],λ_=>none,rfl,yac _,rfl,⟨if_pos rfl,Jk.nil,rfl,yal _,λp hp=>(by cases hp),λa ha=>if_neg O,.new hn0⟩,rfl⟩)
  rintro m fr V1 ⟨j,kj,v,ps,junk2,new,rfl,hj,hkj,hT,rfl⟩ hrecj;have hn1:V.next<=V1.next:=hT.kept.next;have hn2:G.next<=V1.next:=yaj hn0 hn1;have hpl:ps.length<=60:=by
   have h1:=congrArg List.length hT.rows;rw[yae,yat]at h1;omega
  by_cases hltj:j<db[i].rows.length
  ·obtain⟨hv0,hvl⟩:=hr2 _ (yaa hltj);have cm:=jan db[i].rows[j].vals hv0 hvl V1;have htj:db[i].rows.take (j+1)=db[i].rows.take j++[db[i].rows[j]]:=yah hltj;clear hrec hr;repeat' first|apply Go.seq|apply Go.skip|apply Go.region|apply Go.nil|apply Go.block|apply Go.blk|apply Go.segs|(apply Go.exit;exact rfl)|(apply Go.cond true;exact rfl)|(apply Go.cond false;exact rfl)|apply yB|apply yC|((first|apply yD|apply yE);(first|exact yF|assumption);iterate 6 exact rfl)|((first|apply yG|apply yH|apply yI);exact rfl;(first|exact yJ|exact yK rfl rfl|exact yL rfl|exact yM rfl|exact rfl|exact aL rfl rfl rfl rfl rfl|exact aS rfl rfl rfl rfl rfl rfl rfl|exact yax wb hkj hltj))|((first|apply yN|apply yO|apply yP);exact rfl)|exact yaF|(((first|apply yT|apply yU|apply yV|apply yW);exact rfl;(first|exact .d|exact .e|exact .n|((fail_if_success exact bqt);(fail_if_success exact bqf);exact .b)))<;>intro _)
   apply Go.draw;refine Go.qd ?_;repeat' first|(apply yA;exact rfl)|(apply Go.qd)|apply Qc.nil|(apply Qc.op;exact rfl;(first|exactλ_=>rfl|exactλ_=>yM rfl))|(apply Qc.no;exact rfl)|((first|apply yD|apply yE);(first|exact yF|assumption);iterate 6 exact rfl)|((first|apply yG|apply yH);exact rfl;(first|exact yJ|exact yK rfl rfl|exact yL rfl|exact yM rfl|exact rfl|exact aL rfl rfl rfl rfl rfl|exact aS rfl rfl rfl rfl rfl rfl rfl))|((first|apply yN|apply yO);exact rfl)|exact yaF|(((first|apply yT|apply yU|apply yV|apply yW);exact rfl;(first|exact .d|exact .e|exact .n|((fail_if_success exact bqt);(fail_if_success exact bqf);exact .b)))<;>intro _)
   refine .call _ rfl rfl rfl cm ?_;rintro r9 V9 ⟨v9,junk9,hj9,hr9,ht9⟩;rw[hr9,ht9];clear hr9 ht9 cm;repeat' first|(apply yA;exact rfl)|(apply Go.qd)|apply Qc.nil|(apply Qc.op;exact rfl;(first|exactλ_=>rfl|exactλ_=>yM rfl))|(apply Qc.no;exact rfl)|((first|apply yD|apply yE);(first|exact yF|assumption);iterate 6 exact rfl)|((first|apply yG|apply yH);exact rfl;(first|exact yJ|exact yK rfl rfl|exact yL rfl|exact yM rfl|exact rfl|exact aL rfl rfl rfl rfl rfl|exact aS rfl rfl rfl rfl rfl rfl rfl))|((first|apply yN|apply yO);exact rfl)|exact yaF|(((first|apply yT|apply yU|apply yV|apply yW);exact rfl;(first|exact .d|exact .e|exact .n|((fail_if_success exact bqt);(fail_if_success exact bqf);exact .b)))<;>intro _)
   have hg2:(E V1 [(v9,db[i].rows[j].vals.map encV++junk9)]).get V.next=some (v,ps.map encP++junk2):=(E_lt hT.lt).trans hT.get;have hbd:((ps.map encP).length+1)*32<=140737488355328:=by rw[yae];omega
   repeat' first|refine X ?_|(apply Go.sappO;exact rfl;exact rfl;exact rfl;exact hg2;exact wd9;exact hT.jk;exact rfl;exact hbd;intro v' junk' hj')|exact yaF|refine yaS ?_ ?_<;>intro _
   have hfin:=hT.push hn0 db[i].rows[j] (v9:=v9) (v':=v') hj9 hj';rw[<-htj]at hfin;have e1:ps.map encP++[wg (wg [Ce.int .i64 0,Ce.nils] 0 [Ce.int .i64 db[i].rows[j].id]) 1 [vec (V1.next+0) v9 (db[i].rows[j].vals.map encV) junk9]]=(ps++[(db[i].rows[j],vec (V1.next+0) v9 (db[i].rows[j].vals.map encV) junk9)]).map encP:=by
    rw[yak]
    rfl
   have e2:ps.map encP++[[.int .i64 db[i].rows[j].id,vec (V1.next+0) v9 (db[i].rows[j].vals.map encV) junk9]]=(ps++[(db[i].rows[j],vec (V1.next+0) v9 (db[i].rows[j].vals.map encV) junk9)]).map encP:=by
    rw[yak]
    rfl
   rw[e2]at hfin;rw[e1];exact Go.keep [3,6,10,11,12,18,19,20] (hrecj _ _ _ O ⟨j+1,_,v',_,junk',_,rfl,hltj,jc hkj O,hfin,rfl⟩)
  ·have hje:j=db[i].rows.length:=O;subst hje;rw[yapq (yag _)]at hT;clear hrecj;have hxl:xs.length<=60:=by
    have:=hD.len;rw[yat]at this;omega
   have hg:V1.get G.next=some (vo,cells xs++junk):=(hT.old _ hD.lo).trans hD.get;have hcl:∀q∈cells xs,q.length=1:=λq hq=>by
    obtain⟨x,_,rfl⟩:=List.mem_map.1 hq
    rfl
   have hbd:((cells xs).length+1)*24<=140737488355328:=by rw[cells,yae];omega
   repeat' first|refine X ?_|(apply Go.appO;exact rfl;exact rfl;exact rfl;exact hg;exact hcl;exact hD.jk;exact rfl;exact hbd;intro v' junk' hj')|exact yaF|refine yaS ?_ ?_<;>intro _
   have hfin:=hD.push (vo':=v') hT hn0 hj';rw[<-htk]at hfin;have hcc:cells xs++[wg [Ce.nils] 0 [vec V.next v (ps.map encP) junk2]]=cells (xs++[vec V.next v (ps.map encP) junk2]):=zfp;have hfin2:DbT G.next (V1.put G.next (v',cells xs++[wg [Ce.nils] 0 [vec V.next v (ps.map encP) junk2]]++junk')) (db.take (i+1)) G.next v' (xs++[vec V.next v (ps.map encP) junk2]) junk':=hfin;rw[hcc]at hfin2⊢;exact Go.keep [3,10,11,12] (hrec _ _ _ O ⟨i+1,_,v',_,junk',rfl,hlt,jc hk O,⟨hK.trans (hT.kept.trans (.put (yag _))),hfin2⟩,rfl⟩)
 ·repeat' first|refine X ?_|exact yaF|refine yaS ?_ ?_<;>intro _
  rw[yapq O]at hD;exact .ret rfl ⟨_,_,_,_,rfl,hK,hD⟩
theorem zcf:∀{l pre:List wc},wy pre l=true->(∀t∈l,∀u∈pre,u.name≠t.name)/\l.Pairwise (λa b=>a.name≠b.name)
 |[],_,_=>⟨λt h=>(by cases h),.nil⟩
 |a::r,pre,h=>by
  simp only[wy,Bool.and_eq_true,Bool.not_eq_true']at h;obtain⟨⟨h1,h2⟩,h3⟩:=h;obtain⟨g1,g2⟩:=zcf h3;refine⟨λt ht u hu=>?_,.cons (λt ht=>?_) g2⟩
  ·rcases List.mem_cons.1 ht with rfl|ht
   ·rw[ybq]at h2;have:=h2 u hu;intro e;exact this (beq_iff_eq.2 e)
   ·exact g1 t ht u (List.mem_append_left _ hu)
  ·exact g1 t ht a (List.mem_append_right _ (List.mem_singleton.2 rfl))
theorem jfp:∀{l pre:List Col},jag pre l=true->∀c∈l,zq c.dflt=true
 |[],_,_,c,hc=>by cases hc
 |a::r,pre,h,c,hc=>by
  simp only[jag,zdm,jes,Bool.and_eq_true]at h;rcases List.mem_cons.1 hc with rfl|hc
  ·exact h.1.1.2.2.1
  ·exact jfp h.2 c hc
theorem schG(h:zn s=true)(hb:∀t∈s,j6 34359738368 t):SchG s:=by
 obtain⟨h1,h2,h3⟩:=wbx.1 h;have hT:=jaz h2;have hD:=(zcf h2).2;have hM:∀t∈s,∀f∈t.fks,metF s t f=true:=λt ht f hf=>by
  rw[ybq]at h3;have h4:=h3 t ht;rw[Bool.not_eq_true,ybq]at h4;have h5:=h4 f hf;simpa using h5
 have hR:∀t∈s,∀f∈t.fks,∃n,∃hn:n<s.length,jid s f=(n:Int)/\s[n].name=f.table/\s[n].key.length=f.cols.length:=λt ht f hf=>by
  have h4:=hM t ht f hf;rcases wcj (λu:wc=>u.name==f.table) s 0 with⟨h5,_⟩|⟨k,hk,h5,h6⟩
  ·rw[zhh h5]at h4
   cases h4
  ·have h7:idxA (λu:wc=>u.name==f.table) s 0=(k:Int):=by rw[h5];omega
   rw[zf6 h7 hk,wf5,yarq,decide_eq_true_eq]at h4;exact⟨k,hk,h7,by simpa using List.find?_some h6,h4.1⟩
 refine⟨O,λt ht=>?_,hb,λt ht f hf=>?_,λt ht f hf n hn he=>?_,zby h,λt ht=>?_⟩
 ·have:=(jt.1 (hT t ht)).2.2.1;rw[wbf,yarq,decide_eq_true_eq]at this;omega
 ·obtain⟨n,hn,h4,_⟩:=hR t ht f hf;exact⟨n,hn,h4⟩
 ·obtain⟨m,hm,_,h5,h6⟩:=hR t ht f hf;have h7:=List.pairwise_iff_getElem.1 hD;rcases Nat.lt_trichotomy n m with h|h|h
  ·exact absurd (he.symm.trans h5.symm) (h7 n m hn hm h)
  ·subst h;exact h6.symm
  ·exact absurd (h5.trans he) (h7 m n hm hn h)
 ·exact jfp (jt.1 (hT t ht)).2.2.2.2.2.2.1
theorem dbG(h:dbF s db=true){I:Nat->Int->Prop}(hI:∀i (h:i<db.length),∀r∈db[i].rows,I i r.id):DbG I s db:=by
 obtain⟨h1,h2,h3⟩:=jbd h;refine⟨h2,λi hi hi2=>?_⟩;have h4:=h3 i hi hi2;obtain⟨h5,h6⟩:=jat h4;have hc:=(zby h1 _ (yaa hi)).cols8;exact⟨h5,hI i hi2,wfm h4,λr hr=>⟨(wab (h6 r hr).1).1,jbj (h6 r hr).1 hc⟩⟩
variable {I:Nat->Int->Prop}
theorem whn(hs:SchG s){db:List Data}(h:DbG I s db):db.length<=5/\(∀d∈db,wcc 34359738368 d)/\∀d∈db,Rise d.rows/\d.rows.length<=60/\∀r∈d.rows,r.vals≠[]/\r.vals.length<=8/\∀w∈r.vals,bV 12 w:=by
 have h5:=hs.few;have hl:=h.len;have key:∀d∈db,Rise d.rows/\d.rows.length<=60/\∀r∈d.rows,r.vals≠[]/\r.vals.length<=8/\∀w∈r.vals,bV 12 w:=λd hd=>by
  obtain⟨i,hi,rfl⟩:=ybp hd;have hi2:i<s.length:=O;have hr:=h.rows i hi2 hi;have ht:=hs.tab _ (yaa hi2);refine⟨hr.rise,hr.len,λr hm=>?_⟩;obtain⟨f1,f2⟩:=hr.fit r hm;have f3:=(ze.1 f2).2;have:=ht.cols0;have:=ht.cols8;refine⟨λe=>by rw[e]at f1;simp at f1;omega,O,λw hw=>?_⟩;have:=f3 w hw;simp only[zq,Bool.or_eq_true,Bool.and_eq_true,beq_iff_eq,decide_eq_true_eq]at this;rw[bV];rcases this with(⟨_,h⟩|⟨_,h⟩)|⟨_,h⟩
  ·rw[h];simp
  ·rw[h];simp
  ·omega
 refine⟨O,λd hd=>⟨by have:=(key d hd).2.1;omega,λr hr=>?_⟩,key⟩;obtain⟨_,k2,k3⟩:=(key d hd).2.2 r hr;exact⟨O,λw hw=>by have:=k3 w hw;rw[bV]at this⊢;omega⟩
def topR(db:List Data)(q:Res):List Data×Int:=if q.2=0 then(q.1,0)else(db,q.2)
theorem zga{α:Type}{c:α->Int}{B:Nat}:∀{l:List α},(∀x∈l,c x<=B)->cntL c l<=(B*l.length:Nat)
 |[],_=>by simp[cntL]
 |a::l,h=>by
  have h1:=h a gx;have h2:=zga (l:=l) λx hx=>h x (by simp[hx]);rw[cntL,List.length_cons,Nat.mul_succ];omega
theorem jkf(hs:SchG s){db:List Data}(h:DbG I s db):db.length<=34359738368/\(∀x∈db,wcc 34359738368 x)/\1+cntL zf7 db<=34359738368:=by
 obtain⟨h1,h2,h3⟩:=whn hs h;refine⟨O,h2, ?_⟩;have key:∀d∈db,zf7 d<=(1500:Nat):=λd hd=>by
  obtain⟨_,h4,h5⟩:=h3 d hd;have hr:∀r∈d.rows,whi r<=(25:Nat):=λr hr=>by
   obtain⟨_,h6,_⟩:=h5 r hr;rw[whi,cnt3];omega
  have h7:=zga hr;have h8:25*d.rows.length<=1500:=O;rw[zf7];omega
 have h9:=zga key;have h10:1500*db.length<=7500:=O;omega
end Go.Proofs.YtedaadaaibofaaaGreat.Am
namespace Go.Proofs.YtedaadaaibofaaaGreat.Am
variable {I:Nat->Int->Prop}

variable {V:jb}
theorem why{fr:Fr}{cs:List Ce}{x:Opd}(hx:x.ev fr=some (.agg cs)):aop (.box false x) fr V=some (.c (.ptr V.next 0 0 0),V.new (0,[cs])):=by
 simp[aop,hx,AV.cells]
theorem Kept.mono{n m:Nat}{V':jb}(h:Kept m V V')(hn:n<=m):Kept n V V':=⟨h.next,λa ha=>h.get a (yaw ha hn),h.full⟩
variable {db:List Data}{o:Nat}{xs:List Ce}{junk:List (List Ce)}
theorem DbT.holds{n:Nat}{s:List wc}{vo:Nat}(h:DbT n V db o vo xs junk)(hn:n<=V.next):ju ⟨V.next,0,o,vo,junk⟩ n s xs db (V.new (0,[[.fz (s.map ja),vec o vo (cells xs) junk]])):=by
 have hcl:(cells xs).length=db.length:=by rw[cells,yae,h.len]
 have hlo:=h.lo;obtain⟨lab,hl⟩:=h.tb;refine⟨?_,(if_neg (Nat.ne_of_lt hlo)).trans h.get,h.jk,h.len,⟨lab,λi h1 h2=>(hl i h1 h2).frame (λw a ha=>⟨ha.1,ha.2.1,yav ha.2.2.1,Nat.ne_of_lt ha.2.2.1,ha.2.2.2⟩) λw a ha=>if_neg (Nat.ne_of_lt ha.2.2.1)⟩,hn,h.no,by show V.next≠o;omega,yal _,yav hlo⟩;refine(if_pos rfl).trans ?_;rw[vec,hcl]
theorem DbT.has{n:Nat}{vo:Nat}(h:DbT n V db o vo xs junk)(hn:n<=V.next)(hr:∀d∈db,Rise d.rows):Has V (λa=>n<=a/\a<V.next) (.fz (db.map wa)) (vec o vo (cells xs) junk):=by
 have hcl:(cells xs).length=db.length:=by rw[cells,yae,h.len]
 have h1:=(h.holds (s:=[]) hn).has hr;rw[vec,hcl];have hb:∀a,(n<=a/\a<V.next+1/\a≠V.next)->n<=a/\a<V.next:=λa ha=>O;exact(h1.frame λa ha=>(if_neg ha.2.2).symm).mono hb
theorem HasV.two{S:Nat->Prop}{y x:Ce}{k:IntKind}{z:Int}(h:Has V S y x):HasV V S (.tup [.c y,.c (.int k z)]) (.tup [.c x,.c (.int k z)]):=
 HasV.pair (S1:=S) (S2:=λ_=>False) (.c h) (.c (.c (.int _ _))) (λ_ h=>h) (λ_ h=>h.elim) λ_ _ h=>h
theorem wig(s:List wc)(db:List Data)(hd:db.length<=60)(hr:∀d∈db,d.rows.length<=60/\∀r∈d.rows,r.vals≠[]/\r.vals.length<=34359738368)(hrise:∀d∈db,Rise d.rows)(f:Nat)(pre cap:List Ce)(q:Res)(hq:q.2=0->∀d∈q.1,Rise d.rows)(G:jb)
 (hf:∀L xs V,ju L G.next s xs db V->Ok Tryz.prog f (pre.map .c++[.c (.ptr L.c L.vc 0 0)]++cap.map .c) V (Done L G.next s q V)):
 Ok Tryz.prog 136 [.c (.fz (s.map ja)),.c (.fz (db.map wa)),.c (.fn f pre cap)] G (λr V=>Kept G.next G V/\∃x,r=.tup [.c x,.c (.int .i64 (topR db q).2)]/\Has V (λa=>G.next<=a/\a<V.next) (.fz ((topR db q).1.map wa)) x):=by
 refine Ok.run0 mixed wbo gz λhS hA=>?_;clear hS hA;repeat' first|refine X ?_|exact yaF|refine yaS ?_ ?_<;>intro _
 refine .call _ rfl rfl rfl (jbe db hd hr G) ?_;rintro r9 V1 ⟨o,vo,xs,junk,hr9,hK1,hD1⟩;rw[hr9];clear hr9;have hH:=hD1.holds (s:=s) hK1.next;have hK2:Kept G.next G (V1.new (0,[[.fz (s.map ja),vec o vo (cells xs) junk]])):=hK1.trans (.new hK1.next);repeat' first|refine X ?_|((first|apply yG|apply yH|apply yI);exact rfl;(first|exact why rfl))|exact yaF|refine yaS ?_ ?_<;>intro _
 refine .call _ rfl rfl rfl (hf _ _ _ hH) ?_;rintro r9 V2 ⟨hr9,hk2,hq2⟩;rw[hr9];have hK3:=hK2.trans hk2;by_cases h0:q.2=0
 ·obtain⟨xs2,hH2⟩:=hq2 h0;rw[topR,if_pos h0,h0];repeat' first|refine X ?_|((first|apply yG|apply yH|apply yI);exact rfl;(first|exact wbs hH2 rfl))|exact yaF|refine yaS ?_ ?_<;>intro _
  exact .ret rfl ⟨hK3,_,rfl,(hH2.has (hq h0)).mono λa ha=>⟨ha.1,ha.2.1⟩⟩
 ·rw[topR,if_neg h0];generalize q.2=e at h0⊢;repeat' first|refine X ?_|exact yaF|refine yaS ?_ ?_<;>intro _
  refine .call _ rfl rfl rfl (jbe db hd hr V2) ?_;rintro r9 V3 ⟨o3,vo3,xs3,junk3,hr9,hK4,hD4⟩;rw[hr9];repeat' first|refine X ?_|exact yaF|refine yaS ?_ ?_<;>intro _
  exact .ret rfl ⟨hK3.trans (hK4.mono hK3.next),_,rfl,(hD4.has hK4.next hrise).mono λa ha=>⟨yaj hK3.next ha.1,ha.2⟩⟩
end Go.Proofs.YtedaadaaibofaaaGreat.Am
namespace Go.Proofs.YtedaadaaibofaaaGreat.Am
variable {I:Nat->Int->Prop}

end Go.Proofs.YtedaadaaibofaaaGreat.Am
namespace Go.Proofs.YtedaadaaibofaaaGreat.Am
abbrev Ins:=List Data×Int×Int
def insE(s:List wc)(k:Nat)(vals:List Val)(nx:Int)(db:List Data):Ins:=if((tabN s k).fks.any λf=>zl s db false vals f)=true then([],0,5)else(db,nx,0)
def insD(s:List wc)(k:Nat)(vals:List Val)(nx:Int)(db:List Data):Ins:=if(jm db k).length=60\/nx>1000000000 then([],0,7)else insE s k vals nx (db.set k ⟨jm db k++[⟨nx,vals⟩]⟩)
def insC(s:List wc)(k:Nat)(vals:List Val)(nx:Int)(c:Res):Ins:=if c.2=0 then insD s k vals nx c.1 else([],0,c.2)
def insF(run:Chg->List Data->Res)(s:List wc)(k:Nat)(vals:List Val)(rep:Bool)(db:List Data):Ins:=
 if zbs (tabN s k) vals=0 then insC s k vals (zbg (jm db k)) (z4 run (tabN s k) k ⟨zbg (jm db k),vals⟩ rep db)else([],0,zbs (tabN s k) vals)
def resI(q:Ins):AV:=.tup [.c (if q.2.2=0 then .fz (q.1.map wa)else .nils),.c (.int .i64 q.2.1),.c (.int .i64 q.2.2)]
theorem zi7{e:Int}(h:e≠0):resI ([],0,e)=.tup [.c .nils,.c (.int .i64 0),.c (.int .i64 e)]:=by rw[resI,if_neg h]
theorem zck(q:Ins)(n:Nat):∀y∈(resI q).all,Old n y:=λy hy=>by
 simp only[resI,AV.all,AV.all.allL,List.append_nil,List.mem_append,List.mem_singleton]at hy;rcases hy with rfl|rfl|rfl
 ·split
  ·exact zj (z7 _)
  ·exact .nils
 ·exact .int _ _
 ·exact .int _ _
def jga(k:Nat)(nx:Int):Nat->Int->Prop:=λj id=>1<=id/\id<=1000000000/\(j=k->id<nx)
theorem zg0{x:RowD}:∀{l:List RowD},(∀r∈l,r.id<x.id)->zd7 x false l=l++[x]
 |[],_=>rfl
 |r::l,h=>by
  have h1:=h r gx;have h2:=zg0 (x:=x) (l:=l) λq hq=>h q (by simp[hq]);rw[zd7,decide_eq_false O,if_neg gx,if_neg O];simp only[Bool.or_false];rw[h2]
  rfl
variable {t:wc}{l:List RowD}
theorem zc0.mono{Q Q':Int->Prop}(h:zc0 Q t l)(hq:∀i,Q i->Q' i):zc0 Q' t l:=⟨h.len,λr hr=>hq _ (h.ids r hr),h.rise,h.fit⟩
variable {s:List wc}{db:List Data}
theorem DbG.mono{I I':Nat->Int->Prop}(h:DbG I s db)(hI:∀k i,I k i->I' k i):DbG I' s db:=⟨h.len,λi h1 h2=>(h.rows i h1 h2).mono (hI i)⟩
def BI:Nat->Int->Prop:=λ_ id=>1<=id/\id<=1000000000
theorem zea(h:∀r∈l,1<=r.id):1<=zbg l:=by
 by_cases h0:0<l.length
 ·have hlt:l.length-1<l.length:=O;have:=jd9 (l:=l) (k:=l.length-1) hlt O;have:=h _ (yaa hlt);omega
 ·have:l=[]:=yam O;subst this;exact ybe _
variable {k:Nat}{nx:Int}
theorem zc0.snoc(h:zc0 (jga k nx k) t l){x:RowD}(hx:x.id=nx)(h1:1<=nx)(h2:nx<=1000000000)(hl:l.length<60)(hf:x.vals.length=t.cols.length/\jo x.vals 16=true):zc0 (BI k) t (l++[x]):=by
 refine⟨by rw[yay,ybh];omega,λr hr=>?_, ?_,λr hr=>?_⟩
 ·rcases List.mem_append.1 hr with hr|hr
  ·exact⟨(h.ids r hr).1,(h.ids r hr).2.1⟩
  ·rw[List.mem_singleton.1 hr,hx];exact⟨h1,h2⟩
 ·refine List.pairwise_append.2 ⟨h.rise,List.pairwise_singleton _ _,λa ha b hb=>?_⟩;rw[List.mem_singleton.1 hb,hx];exact(h.ids a ha).2.2 rfl
 ·rcases List.mem_append.1 hr with hr|hr
  ·exact h.fit r hr
  ·rw[List.mem_singleton.1 hr];exact hf
theorem DbG.next(h:DbG (jga k nx) s db):DbG BI s db:=h.mono λ_ _ h=>⟨h.1,h.2.1⟩
theorem ji7(hr:Rise l):∀r∈l,r.id<zbg l:=λr hm=>by
 obtain⟨i,hi,rfl⟩:=ybp hm;have h1:=jd9 (l:=l) (k:=l.length-1) O O;rw[h1];have h2:=List.pairwise_iff_getElem.1 hr;by_cases e:i=l.length-1
 ·subst e;omega
 ·have:=h2 i (l.length-1) hi O O;omega
set_option maxHeartbeats 2000000 in
theorem jg0(hs:SchG s){k:Nat}(hk:k<s.length)(vals0:List Val)(rep:Bool)(db:List Data){nx:Int}(hnx:nx=zbg (jm db k))(h:DbG (jga k nx) s db)(hl:vals0.length=s[k].cols.length)(hv:jo vals0 16=true):
 Pure Tryz.prog 256 [.c (.fz (s.map ja)),.c (.fz (db.map wa)),.c (.int .i64 (k:Int)),.c (.fz (vals0.map encV)),.c (.bool rep)] (resI (insF (chgF s 12) s k (if rep then jg s[k] 0 vals0 else vals0) rep db)):=by
 refine yas zbi λG=>?_;have hk2:k<db.length:=by rw[h.len];exact hk
 have ht:=hs.tab _ (yaa hk);have hb:=hs.big _ (yaa hk);have hR:=h.rows k hk hk2;have cF:=we2 s[k] vals0 hl ht.cols8;have hvv:=we1 hs hk hl hv rep;rw[je hk2]at hnx;have cn:=jie db[k] hR.len λr hr=>⟨(hR.ids r hr).1,(hR.ids r hr).2.1⟩;have hn9:1<=nx:=by rw[hnx];exact zea λr hr=>(hR.ids r hr).1
 rw[<-hnx]at cn;rw[insF,wq hk,je hk2,<-hnx];repeat' first|refine X ?_|((first|apply yG|apply yH|apply yI);exact rfl;(first|exact yax ja rfl hk))
 refine Go.meet (K':=[_]) (λfr V'=>∃vals,vals=(if rep then jg s[k] 0 vals0 else vals0)/\fr=[(0,AV.c (.fz (s.map ja))),(1,.c (.fz (db.map wa))),(2,.c (.int .i64 (k:Int))),(3,.c (.fz (vals.map encV))),(4,.c (.bool rep)),(13,.c (.fp (ja s[k])))]/\V'=E G []) ?_ ?_
 ·intro K hrec
  cases rep
  ·repeat' first|refine X ?_|exact yaF|refine yaS ?_ ?_<;>intro _
   exact Go.keep [0,1,2,3,4,13] (hrec _ _ ⟨_,rfl,rfl,rfl⟩)
  ·repeat' first|refine X ?_|refine yaC (cF) ?_|exact yaF|refine yaS ?_ ?_<;>intro _
   exact Go.keep [0,1,2,3,4,13] (hrec _ _ ⟨_,rfl,rfl,rfl⟩)
 rintro fr V' ⟨vals,hve,rfl,rfl⟩;rw[<-hve]at hvv⊢;clear cF hl hv hve;have ca:=zdo s[k] vals hvv.1 ht hvv.2;have cv:=wbd vals (yaj (ze.1 hvv.2).1 gb);by_cases hab:zbs s[k] vals=0
 ·rw[hab]at ca;rw[if_pos hab];have hr:=jhn (I:=jga k nx) hs 12 1 gb rfl;have cc:=wc0 (deep:=0) hs hr hk ⟨nx,vals⟩ hvv.1 rep db h;have hkc:=λ(h2:(z4 (chgF s 12) s[k] k ⟨nx,vals⟩ rep db).2=0)=>zbe hr.keeps hk (t:=s[k]) (x:=⟨nx,vals⟩) (rep:=rep) h h2;generalize z4 (chgF s 12) s[k] k ⟨nx,vals⟩ rep db=c at cc hkc⊢;rw[insC];by_cases hc0:c.2=0
  ·rw[j7 hc0]at cc;rw[if_pos hc0];have hdb1:=hkc hc0;generalize c.1=db1 at cc hdb1⊢;have hn1:k<db1.length:=by rw[hdb1.len];exact hk
   have hR1:=hdb1.rows k hk hn1;rw[insD,je hn1];by_cases hlen:db1[k].rows.length=60
   ·rw[if_pos (.inl hlen)];repeat' first|refine X ?_|((first|apply yG|apply yH|apply yI);exact rfl;(first|exact yax wa rfl hk2|exact yax wa rfl hn1))|refine yaC (ca) ?_|refine yaC (cn) ?_|refine yaC (cv) ?_|refine yaC (cc) ?_|exact yaF|refine yaS ?_ ?_<;>intro _
    all_goals first
     |(exfalso;omega)
     |contradiction
     |skip
    exact .ret rfl (Fin.same rfl (zck ([],0,7) _))
   ·by_cases hbig:nx>1000000000
    ·rw[if_pos (.inr hbig)];repeat' first|refine X ?_|((first|apply yG|apply yH|apply yI);exact rfl;(first|exact yax wa rfl hk2|exact yax wa rfl hn1))|refine yaC (ca) ?_|refine yaC (cn) ?_|refine yaC (cv) ?_|refine yaC (cc) ?_|exact yaF|refine yaS ?_ ?_<;>intro _
     all_goals first
      |(exfalso;omega)
      |contradiction
      |skip
     all_goals exact .ret rfl (Fin.same rfl (zck ([],0,7) _))
    ·rw[if_neg (λh=>by rcases h with h|h<;>omega)];have c4:=je3 db1[k] ⟨nx,vals⟩ hR1.len;rw[zg0 λr hr=>(hR1.ids r hr).2.2 rfl]at c4;have c5:=jcd db1 (k:Int) k ⟨db1[k].rows++[⟨nx,vals⟩]⟩ rfl hn1 (by rw[hdb1.len];exact yaj hs.few gb);have hset:DbG BI s (db1.set k ⟨db1[k].rows++[⟨nx,vals⟩]⟩):=hdb1.next.set hk (hR1.snoc rfl hn9 O (by have:=hR1.len;omega) hvv);generalize db1.set k ⟨db1[k].rows++[⟨nx,vals⟩]⟩=db2 at c5 hset⊢;have c9:=waz s db2 (k:Int) k vals true (yaj hs.few gb) rfl hk ht.fk3 (fkR hs hset hk hvv.1);have e9:s[k].fks.any (zl s db2 (!true) vals)=s[k].fks.any λf=>zl s db2 false vals f:=rfl;rw[e9]at c9;rw[insE,wq hk];generalize (s[k].fks.any λf=>zl s db2 false vals f)=B at c9⊢
     cases B
     ·rw[if_neg yai];repeat' first|refine X ?_|((first|apply yG|apply yH|apply yI);exact rfl;(first|exact yax wa rfl hk2|exact yax wa rfl hn1))|refine yaC (ca) ?_|refine yaC (cn) ?_|refine yaC (cv) ?_|refine yaC (cc) ?_|refine yaC (c4) ?_|refine yaC (c5) ?_|refine yaC (c9) ?_|exact yaF|refine yaS ?_ ?_<;>intro _
      all_goals first
       |(exfalso;omega)
       |contradiction
       |skip
      exact .ret rfl (Fin.same rfl (zck (db2,nx,0) _))
     ·rw[if_pos rfl];repeat' first|refine X ?_|((first|apply yG|apply yH|apply yI);exact rfl;(first|exact yax wa rfl hk2|exact yax wa rfl hn1))|refine yaC (ca) ?_|refine yaC (cn) ?_|refine yaC (cv) ?_|refine yaC (cc) ?_|refine yaC (c4) ?_|refine yaC (c5) ?_|refine yaC (c9) ?_|exact yaF|refine yaS ?_ ?_<;>intro _
      all_goals first
       |(exfalso;omega)
       |contradiction
       |skip
      exact .ret rfl (Fin.same rfl (zck ([],0,5) _))
  ·rw[if_neg hc0];obtain⟨e,he⟩:∃e,c.2=e:=⟨_,rfl⟩;rw[he]at hc0;rw[zab he hc0]at cc;rw[he];repeat' first|refine X ?_|((first|apply yG|apply yH|apply yI);exact rfl;(first|exact yax wa rfl hk2))|refine yaC (ca) ?_|refine yaC (cn) ?_|refine yaC (cv) ?_|refine yaC (cc) ?_|exact yaF|refine yaS ?_ ?_<;>intro _
   exact .ret rfl (Fin.same (zi7 hc0).symm (zck ([],0,e) _))
 ·rw[if_neg hab];generalize zbs s[k] vals=e at ca hab⊢;repeat' first|refine X ?_|refine yaC (ca) ?_|exact yaF|refine yaS ?_ ?_<;>intro _
  exact .ret rfl (Fin.same (zi7 hab).symm (zck ([],0,e) _))
theorem wkf{s bytes v:Nat}{ys junk:List (List Ce)}{e:List Ce}(hys:∀q∈ys,q.length=s)(hj:Jk s junk)(he:e.length=s)(hb:(ys.length+1)*bytes<=140737488355328):
 ∃v' junk',Jk s junk'/\∀(id:Nat) (V:jb) (fr:Fr) (x y:Opd),x.ev fr=some (.c (vec id v ys junk))->y.ev fr=some (.c (.fz [e]))->V.get id=some (v,ys++junk)->aop (.app s bytes x y) fr V=some (.c (vec id v' (ys++[e]) junk'),V.put id (v',ys++[e]++junk')):=by
 have hall1:∀q∈[e],q.length=s:=λq hq=>by rw[List.mem_singleton.1 hq];exact he
 have hall:∀q∈ys++junk,q.length=s:=λq hq=>by
  rcases List.mem_append.1 hq with hq|hq
  ·exact hys q hq
  ·exact(hj q hq).1
 by_cases c:1<=junk.length
 ·refine⟨v,junk.drop 1,λq hq=>hj q (ybl hq),λid V fr x y hx hy hg=>?_⟩;have e2:wg (ys++junk) (0+ys.length) [e]=ys++[e]++junk.drop 1:=by
   simp only[wg,Nat.zero_add,List.length_singleton];rw[List.take_left' rfl,List.drop_append];rw[yad O,Nat.add_sub_cancel_left];simp
  have h1:appA V s bytes (vec id v ys junk) [e]=some (vec id v (ys++[e]) (junk.drop 1),V.put id (v,ys++[e]++junk.drop 1)):=by
   unfold appA;rw[if_pos hall1];simp only[vec,hg];rw[if_pos ⟨trivial,gx,O,hall⟩,if_pos (by simp only[List.length_singleton];omega),e2];simp only[List.length_append,List.length_singleton,List.length_drop];rw[show ys.length+1+(junk.length-1)=ys.length+junk.length by omega]
  simp only[aop,hx,hy,jb.els,Option.bind_some,h1,Option.map_some]
 ·refine⟨v+1,[],Jk.nil,λid V fr x y hx hy hg=>?_⟩;have e3:(List.drop 0 (ys++junk)).take ys.length=ys:=by rw[List.drop_zero,List.take_left' rfl]
  have h1:appA V s bytes (vec id v ys junk) [e]=some (vec id (v+1) (ys++[e]) [],V.put id (v+1,ys++[e]++[])):=by
   unfold appA;rw[if_pos hall1];simp only[vec,hg];rw[if_pos ⟨trivial,gx,O,hall⟩,if_neg (by simp only[List.length_singleton];omega),if_pos (by simpa using hb),e3];simp
  simp only[aop,hx,hy,jb.els,Option.bind_some,h1,Option.map_some]
variable {V:jb}
theorem jko{id:Nat}{b:Nat×List (List Ce)}{l:List (Nat×List (List Ce))}(h:id<V.next):E ((E V []).put id b) l=(E V l).put id b:=by
 refine jb.ext (by show(E V []).next+l.length=V.next+l.length;rw[jaf];rfl) λa=>?_;by_cases h1:a<V.next
 ·rw[E_lt (show a<((E V []).put id b).next from h1)];show(if a=id then some b else(E V []).get a)=(if a=id then some b else(E V l).get a);rw[E_lt h1,E_lt h1]
 ·rw[E_ge (show¬a<((E V []).put id b).next from h1)];show _=(if a=id then some b else(E V l).get a);rw[if_neg O,E_ge h1]
  rfl
variable {L:ChL}{n:Nat}{xs:List Ce}
theorem zju(h:ju L n s xs db V){k:Nat}(hk:k<db.length)(hk2:k<xs.length)(hl:db[k].rows.length<=60)(hid:∀r∈db[k].rows,1<=r.id/\r.id<=1000000000):
 Ok Tryz.prog 236 [.c (.ptr L.c L.vc 0 0),.c (.int .i64 (k:Int))] V (λr V'=>r=.c (.int .i64 (zbg db[k].rows))/\V'=V):=by
 refine Ok.run0 mixed zb3 gz λhS hA=>?_;clear hS hA;obtain⟨lab,ps,id2,v2,junk2,hat,hl2⟩:=h.any hk hk2;have hpl:(ps.map encP).length=db[k].rows.length:=by rw[yae,hat.len]
 by_cases h0:0<db[k].rows.length
 ·have hlt:db[k].rows.length-1<db[k].rows.length:=O;have hz:IntKind.i64.wrap ((db[k].rows.length:Int)-1)=((db[k].rows.length-1:Nat):Int):=by rw[jh O O];omega
  have hlast:=hid _ (yaa hlt);have hnx:=jd9 (l:=db[k].rows) (k:=db[k].rows.length-1) hlt O;repeat' first|refine X ?_|((first|apply yG|apply yH|apply yI);exact rfl;(first|exact wbs h rfl|exact jde h rfl rfl rfl hk|exact wde h rfl hk2|exact wdd h hk hk2 rfl))|exact yaF|refine yaS ?_ ?_<;>intro _
  all_goals first
   |(exfalso;omega)
   |skip
  rw[hat.x];repeat' first|refine X ?_|((first|apply yG|apply yH|apply yI);exact rfl;(first|exact jp rfl rfl hz (by rw[hpl];exact hlt) hat.get (hat.at hlt) rfl|exact wz rfl hat.get (hat.at hlt) (Nat.zero_lt_succ _)))|exact yaF|refine yaS ?_ ?_<;>intro _
  refine .ret rfl ⟨?_,rfl⟩;rw[hnx,<-hat.row hlt];show AV.c (.int .i64 (IntKind.i64.wrap ((ps[db[k].rows.length-1]'_).1.id+1)))=_;rw[jh (by rw[hat.row hlt];omega) (by rw[hat.row hlt];omega)]
 ·have hnil:db[k].rows=[]:=yam O;repeat' first|refine X ?_|((first|apply yG|apply yH|apply yI);exact rfl;(first|exact wbs h rfl|exact jde h rfl rfl rfl hk|exact wde h rfl hk2|exact wdd h hk hk2 rfl))|exact yaF|refine yaS ?_ ?_<;>intro _
  all_goals first
   |(exfalso;omega)
   |skip
  rw[hnil];exact .ret rfl ⟨rfl,rfl⟩
variable {vals:List Val}
theorem zih{rows:List RowD}{keys:List (List Int)}{a b:Int}(h:∀r∈rows,r.id≠a/\r.id≠b):zx rows keys a vals=zx rows keys b vals:=by
 rw[zx,zx]
 congr 1
 refine List.filter_congr λr hr=>?_;obtain⟨h1,h2⟩:=h r hr;rw[beq_eq_false_iff_ne.2 h1,beq_eq_false_iff_ne.2 h2]
variable {run:Chg->List Data->Res}{rep:Bool}
theorem wi7{a b:Int}(h:∀r∈jm db k,r.id≠a/\r.id≠b):z4 run t k ⟨a,vals⟩ rep db=z4 run t k ⟨b,vals⟩ rep db:=by
 rw[z4,z4];simp only[zih h]
def jks(L:ChL)(n:Nat)(s:List wc)(q:Ins)(V:jb)(r:AV)(V':jb):Prop:=r=.tup [.c (.int .i64 q.2.2),.c (.int .i64 q.2.1)]/\Kept n V V'/\(q.2.2=0->∃xs,ju L n s xs q.1 V')
set_option maxHeartbeats 4000000 in
theorem wg0(hs:SchG s){k:Nat}(hk:k<s.length)(vals0:List Val)(rep:Bool)(db:List Data){nx:Int}(hnx:nx=zbg (jm db k))(xs:List Ce)(V:jb)(h:ju L n s xs db V)(hdb:DbG (jga k nx) s db)(hl:vals0.length=s[k].cols.length)(hv:jo vals0 16=true):
 Ok Tryz.prog 138 [.c (.ptr L.c L.vc 0 0),.c (.int .i64 (k:Int)),.c (.fz (vals0.map encV)),.c (.bool rep)] V (jks L n s (insF (chgF s 12) s k (if rep then jg s[k] 0 vals0 else vals0) rep db) V):=by
 refine Ok.run0 mixed zbp gz λhS hA=>?_;clear hS hA;have hk2:k<db.length:=by rw[hdb.len];exact hk
 have hk3:k<xs.length:=by rw[h.len];exact hk2
 have ht:=hs.tab _ (yaa hk);have hb:=hs.big _ (yaa hk);have hR:=hdb.rows k hk hk2;have hne:∀{l:List Val},l.length=s[k].cols.length->l≠[]:=λh1 h0=>by
  rw[h0]at h1;have:=ht.cols0;simp at h1;omega
 have cF:=jgz s[k] vals0 hl (hne hl) ht.cols8;have hvv:=we1 hs hk hl hv rep;rw[je hk2]at hnx;have hn9:1<=nx:=by rw[hnx];exact zea λr hr=>(hR.ids r hr).1
 rw[insF,wq hk,je hk2,<-hnx];have hn0:V.next<=V.next:=yag _;repeat' first|refine X ?_|((first|apply yG|apply yH|apply yI);exact rfl;(first|exact zde h rfl|exact yax ja rfl hk))
 refine Go.meet (K':=[_]) (λfr V'=>V'=V/\∃vals,vals=(if rep then jg s[k] 0 vals0 else vals0)/\fr=[(0,AV.c (.ptr L.c L.vc 0 0)),(1,.c (.int .i64 (k:Int))),(2,.c (.fz (vals.map encV))),(3,.c (.bool rep)),(10,.c (.fp (ja s[k])))]) ?_ ?_
 ·intro K hrec
  cases rep
  ·repeat' first|refine X ?_|exact yaF|refine yaS ?_ ?_<;>intro _
   exact Go.keep [0,1,2,3,10] (hrec _ _ ⟨rfl,_,rfl,rfl⟩)
  ·repeat' first|refine X ?_|refine yaC (cF) ?_|exact yaF|refine yaS ?_ ?_<;>intro _
   exact Go.keep [0,1,2,3,10] (hrec _ _ ⟨rfl,_,rfl,rfl⟩)
 rintro fr V' ⟨hτ,vals,hve,rfl⟩;rw[hτ];rw[<-hve]at hvv⊢;clear cF hl hv hve hτ;have ca:=wfo s[k] vals hvv.1 ht hb;by_cases hab:zbs s[k] vals=0
 ·rw[hab]at ca;rw[if_pos hab];repeat' first|refine X ?_|refine yaC (ca) ?_|exact yaF|refine yaS ?_ ?_<;>intro _
  clear ca;have cn:=zju h hk2 hk3 hR.len λr hr=>⟨(hR.ids r hr).1,(hR.ids r hr).2.1⟩;rw[<-hnx]at cn;refine .call _ rfl rfl rfl cn ?_;rintro r9 V9 ⟨hr9,ht9⟩;rw[hr9,ht9];clear hr9 ht9 cn;have hr:=wi5 (I:=jga k nx) (L:=L) (n:=n) hs 12 1 gb rfl;have cc:=zhy (deep:=0) hs hr hk 0 vals hvv.1 rep db xs V h hdb;rw[wi7 (b:=nx) λr hm=>by
   rw[je hk2]at hm;have h1:=hR.ids r hm;exact⟨λe=>by have:=h1.1;omega,λe=>by have:=h1.2.2 rfl;omega⟩]at cc
  have hkc:=λ(h2:(z4 (chgF s 12) s[k] k ⟨nx,vals⟩ rep db).2=0)=>zbe hr.keeps hk (t:=s[k]) (x:=⟨nx,vals⟩) (rep:=rep) hdb h2;generalize z4 (chgF s 12) s[k] k ⟨nx,vals⟩ rep db=c at cc hkc⊢;repeat' first|refine X ?_|exact yaF|refine yaS ?_ ?_<;>intro _
  refine .call _ rfl rfl rfl cc ?_;rintro r9 V1 ⟨hr9,hk1,hq1⟩;rw[hr9];clear cc hr9;rw[insC];by_cases hc0:c.2=0
  ·obtain⟨xs1,hH1⟩:=hq1 hc0;have hdb1:=hkc hc0;rw[if_pos hc0,hc0];generalize c.1=db1 at hdb1 hH1⊢;clear hkc hq1;have hn1:k<db1.length:=by rw[hdb1.len];exact hk
   have hn2:k<xs1.length:=by rw[hH1.len];exact hn1
   have hR1:=hdb1.rows k hk hn1;rw[insD,je hn1];have hlen60:=hR1.len;by_cases hlen:db1[k].rows.length=60
   ·rw[if_pos (.inl hlen)];repeat' first|refine X ?_|((first|apply yG|apply yH|apply yI);exact rfl;(first|exact wbs hH1 rfl|exact jde hH1 rfl rfl rfl hn1|exact wde hH1 rfl hn2|exact wdd hH1 hn1 hn2 rfl))|exact yaF|refine yaS ?_ ?_<;>intro _
    all_goals first
     |(exfalso;omega)
     |skip
    all_goals exact .ret rfl ⟨rfl,hk1,λh=>by cases h⟩
   ·by_cases hbig:nx>1000000000
    ·rw[if_pos (.inr hbig)];repeat' first|refine X ?_|((first|apply yG|apply yH|apply yI);exact rfl;(first|exact wbs hH1 rfl|exact jde hH1 rfl rfl rfl hn1|exact wde hH1 rfl hn2|exact wdd hH1 hn1 hn2 rfl))|exact yaF|refine yaS ?_ ?_<;>intro _
     all_goals first
      |(exfalso;omega)
      |skip
     all_goals exact .ret rfl ⟨rfl,hk1,λh=>by cases h⟩
    ·rw[if_neg (λh=>by rcases h with h|h<;>omega)];have hset:DbG BI s (db1.set k ⟨db1[k].rows++[⟨nx,vals⟩]⟩):=hdb1.next.set hk (hR1.snoc rfl hn9 O O hvv);obtain⟨lab2,ps2,id2,v2,junk2,hat,hl2⟩:=hH1.any hn1 hn2;obtain⟨_,q1,q2,q3,q4⟩:=hat.own;repeat' first|apply Go.seq|apply Go.skip|apply Go.region|apply Go.nil|apply Go.block|apply Go.blk|apply Go.segs|(apply Go.exit;exact rfl)|(apply Go.cond true;exact rfl)|(apply Go.cond false;exact rfl)|apply yB|apply yC|((first|apply yD|apply yE);(first|exact yF|assumption);iterate 6 exact rfl)|((first|apply yG|apply yH|apply yI);exact rfl;(first|exact yJ|exact yK rfl rfl|exact yL rfl|exact yM rfl|exact rfl|exact aL rfl rfl rfl rfl rfl|exact aS rfl rfl rfl rfl rfl rfl rfl|exact wbs hH1 rfl|exact jde hH1 rfl rfl rfl hn1|exact wde hH1 rfl hn2|exact wdd hH1 hn1 hn2 rfl))|((first|apply yN|apply yO|apply yP);exact rfl)|exact yaF|(((first|apply yT|apply yU|apply yV|apply yW);exact rfl;(first|exact .d|exact .e|exact .n|((fail_if_success exact bqt);(fail_if_success exact bqf);exact .b)))<;>intro _)
     all_goals first
      |(exfalso;omega)
      |skip
     apply Go.draw;refine .old λ_ hSt=>?_;have hE0:(E V1 []).put id2 (v2,ps2.map encP++junk2)=V1:=by rw[wh4 hSt,jf9 hat.get]
     refine Go.ext ?_ hE0;have hcS:∀a b,((E V1 a).put id2 b).get L.c=some (L.vc,[[.fz (s.map ja),.sl L.d L.vd 0 db1.length (db1.length+L.junk.length)]]):=λa b=>(if_neg (Ne.symm q3)).trans ((E_lt hH1.lc).trans hH1.c);have hdS:∀a b,((E V1 a).put id2 b).get L.d=some (L.vd,cells xs1++L.junk):=λa b=>(if_neg (Ne.symm q4)).trans ((E_lt hH1.ld).trans hH1.d);have o1:∀(a:List (Nat×List (List Ce))) (b:Nat×List (List Ce)) (fr:Fr) (x:Opd),x.ev fr=some (.c (.ptr L.c L.vc 0 1))->aop (.load false 1 x) fr ((E V1 a).put id2 b)=some (.c (.sl L.d L.vd 0 db1.length (db1.length+L.junk.length)),(E V1 a).put id2 b):=λa b fr x hx=>wz hx (hcS a b) rfl (yal _);have o2:∀(a:List (Nat×List (List Ce))) (b:Nat×List (List Ce)) (fr:Fr) (x y:Opd),x.ev fr=some (.c (.sl L.d L.vd 0 db1.length (db1.length+L.junk.length)))->y.ev fr=some (.c (.int .i64 (k:Int)))->aop (.iaddr 1 x y) fr ((E V1 a).put id2 b)=some (.c (.ptr L.d L.vd (0+k) 0),(E V1 a).put id2 b):=λa b fr x y hx hy=>jp hx hy rfl hn1 (hdS a b) (jal hn2) rfl;have o3:∀(a:List (Nat×List (List Ce))) (b:Nat×List (List Ce)) (fr:Fr) (x:Opd),x.ev fr=some (.c (.ptr L.d L.vd (0+k) 0))->aop (.load false 1 x) fr ((E V1 a).put id2 b)=some (.c xs1[k],(E V1 a).put id2 b):=λa b fr x hx=>wz hx (hdS a b) (jal hn2) (yal _);refine Go.qxd (λa b=>(E V1 a).put id2 b) (λ_=>True) [] (v2,ps2.map encP++junk2) (λa b b' h=>Option.some.inj (jap.symm.trans ((congrArg (λG=>G.get id2) h).trans jap))) trivial ?_;repeat' first|(apply Qx.op;exact rfl;(first|exactλa b _=>o1 a b _ _ rfl|exactλa b _=>o2 a b _ _ _ rfl rfl|exactλa b _=>o3 a b _ _ rfl|exactλ_ _ _=>rfl))
     refine Qx.call (λr a'=>∃v9 junk9,Jk 3 junk9/\r=.c (vec (V1.next+0) v9 (vals.map encV) junk9)/\a'=[(v9,vals.map encV++junk9)]) rfl rfl rfl (λb _=>(jan vals (hne hvv.1) (yaj (ze.1 hvv.2).1 gb) ((E V1 []).put id2 b)).mono ?_) ?_
     ·rintro r V9 ⟨v9,junk9,hj9,hr9,ht9⟩;exact⟨_,⟨v9,junk9,hj9,hr9,rfl⟩,by rw[ht9,jko q2]⟩
     rintro r a' ⟨v9,junk9,hj9,hr9,ha9⟩;rw[hr9,ha9];have hbd:((ps2.map encP).length+1)*32<=140737488355328:=by rw[yae,hat.len];omega
     obtain⟨v',junk',hj',hap⟩:=wkf (bytes:=32) (v:=v2) (e:=[.int .i64 nx,vec (V1.next+0) v9 (vals.map encV) junk9]) (wd9 (ps:=ps2)) hat.jk rfl hbd;repeat' first|(apply Qx.op;exact rfl;exactλ_ _ _=>rfl)
     refine .wop (v:=.c (vec id2 v' (ps2.map encP++[[.int .i64 nx,vec (V1.next+0) v9 (vals.map encV) junk9]]) junk')) (b':=(v',ps2.map encP++[[.int .i64 nx,vec (V1.next+0) v9 (vals.map encV) junk9]]++junk')) rfl rfl (λa=>?_) trivial ?_
     ·rw[hap id2 ((E V1 a).put id2 (v2,ps2.map encP++junk2)) _ _ _ (by rw[<-hat.x];rfl) rfl jap,zi4]
     refine .nil ?_;have e1:ps2.map encP++[[.int .i64 nx,vec (V1.next+0) v9 (vals.map encV) junk9]]=(ps2++[((⟨nx,vals⟩:RowD),vec (V1.next+0) v9 (vals.map encV) junk9)]).map encP:=by
      rw[yak]
      rfl
     rw[e1];have hH2:ju L n s (xs1.set k (vec id2 v' ((ps2++[((⟨nx,vals⟩:RowD),vec (V1.next+0) v9 (vals.map encV) junk9)]).map encP) junk')) (db1.set k ⟨db1[k].rows++[⟨nx,vals⟩]⟩) (((E V1 [(v9,vals.map encV++junk9)]).put id2 (v',(ps2++[((⟨nx,vals⟩:RowD),vec (V1.next+0) v9 (vals.map encV) junk9)]).map encP++junk')).put L.d (L.vd,(cells xs1++L.junk).set (0+k) [vec id2 v' ((ps2++[((⟨nx,vals⟩:RowD),vec (V1.next+0) v9 (vals.map encV) junk9)]).map encP) junk'])):=by
      have hng:∀{a:Nat},a<V1.next->a≠id2->a≠L.d->(((E V1 [(v9,vals.map encV++junk9)]).put id2 (v',(ps2++[((⟨nx,vals⟩:RowD),vec (V1.next+0) v9 (vals.map encV) junk9)]).map encP++junk')).put L.d (L.vd,(cells xs1++L.junk).set (0+k) [vec id2 v' ((ps2++[((⟨nx,vals⟩:RowD),vec (V1.next+0) v9 (vals.map encV) junk9)]).map encP) junk'])).get a=V1.get a:=λha h1 h2=>(if_neg h2).trans ((if_neg h1).trans (E_lt ha));have hld:=hH1.ld;refine hH1.upd hl2 hn2 (new:=λ_=>some nx) (by show V1.next<=V1.next+1;omega) (λa ha hne hno=>hng ha (λe=>hno ⟨none,by rw[e];exact hat.own⟩) hne) ?_ ?_
      ·rw[jgy hn2];exact jap
      ·refine .sl _ _ id2 v' junk' ?_ ((if_neg q4).trans jap) hj' (.inl hat.own) λp hp=>?_
       ·rw[yak,hat.rows]
        rfl
       ·rcases List.mem_append.1 hp with hm|hm
        ·exact⟨(hat.vl p hm).1.frame λa ha=>hng ((hat.vl p hm).2 a ha).2.2.1 (hat.ne hm ha) ((hat.vl p hm).2 a ha).2.2.2.2,λa ha=>.inl ((hat.vl p hm).2 a ha)⟩
        ·rw[List.mem_singleton.1 hm];refine⟨.sl vals _ v9 junk9 ((if_neg O).trans ((if_neg O).trans ?_)) hj9,λa ha=>.inr ?_⟩
         ·rw[E_at]
          rfl
         ·cases ha;exact⟨yag _,by show V1.next+0<V1.next+1;omega,rfl⟩
     have hK2:Kept n V1 (((E V1 [(v9,vals.map encV++junk9)]).put id2 (v',(ps2++[((⟨nx,vals⟩:RowD),vec (V1.next+0) v9 (vals.map encV) junk9)]).map encP++junk')).put L.d (L.vd,(cells xs1++L.junk).set (0+k) [vec id2 v' ((ps2++[((⟨nx,vals⟩:RowD),vec (V1.next+0) v9 (vals.map encV) junk9)]).map encP) junk'])):=((Kept.ofE hH1.le _).trans (.put q1)).trans (.put hH1.nd);repeat' first|apply Go.seq|apply Go.skip|apply Go.region|apply Go.nil|apply Go.block|apply Go.blk|apply Go.segs|(apply Go.exit;exact rfl)|(apply Go.cond true;exact rfl)|(apply Go.cond false;exact rfl)|apply yB|apply yC|((first|apply yD|apply yE);(first|exact yF|assumption);iterate 6 exact rfl)|((first|apply yG|apply yH|apply yI);exact rfl;(first|exact yJ|exact yK rfl rfl|exact yL rfl|exact yM rfl|exact rfl|exact aL rfl rfl rfl rfl rfl|exact aS rfl rfl rfl rfl rfl rfl rfl|exact jp rfl rfl rfl hn1 (hdS _ _) (jal hn2) rfl|exact zch rfl rfl (hdS _ _) (jal hn2) (yal _)))|((first|apply yN|apply yO|apply yP);exact rfl)|exact yaF|(((first|apply yT|apply yU|apply yV|apply yW);exact rfl;(first|exact .d|exact .e|exact .n|((fail_if_success exact bqt);(fail_if_success exact bqf);exact .b)))<;>intro _)
     obtain⟨V2,hτ2⟩:∃V2,V2=(((E V1 [(v9,vals.map encV++junk9)]).put id2 (v',(ps2++[((⟨nx,vals⟩:RowD),vec (V1.next+0) v9 (vals.map encV) junk9)]).map encP++junk')).put L.d (L.vd,(cells xs1++L.junk).set (0+k) [vec id2 v' ((ps2++[((⟨nx,vals⟩:RowD),vec (V1.next+0) v9 (vals.map encV) junk9)]).map encP) junk'])):=⟨_,rfl⟩;refine Go.ext ?_ hτ2;rw[<-hτ2]at hH2 hK2;clear hτ2 hap o1 o2 o3 hcS hdS;generalize xs1.set k (vec id2 v' ((ps2++[((⟨nx,vals⟩:RowD),vec (V1.next+0) v9 (vals.map encV) junk9)]).map encP) junk')=xs2 at hH2;generalize db1.set k ⟨db1[k].rows++[⟨nx,vals⟩]⟩=db2 at hset hH2⊢;have hK3:=hk1.trans hK2;rw[insE,wq hk];have c9:=jdv s db2 s[k] vals false (yaj hs.few gb) (yaj ht.fk3 gb) (fkR hs hset hk hvv.1);have e9:s[k].fks.any (zl s db2 false vals)=s[k].fks.any λf=>zl s db2 false vals f:=rfl;rw[e9]at c9;generalize (s[k].fks.any λf=>zl s db2 false vals f)=B at c9⊢;repeat' first|refine X ?_|((first|apply yG|apply yH|apply yI);exact rfl;(first|exact zde hH2 rfl|exact wbs hH2 rfl))|exact yaF|refine yaS ?_ ?_<;>intro _
     refine Go.slcall rfl rfl rfl c9 (.bool _) (.same (.own hH2.frz (.same (.same (.same .nil))))) ?_
     cases B
     ·rw[if_neg yai];repeat' first|refine X ?_|exact yaF|refine yaS ?_ ?_<;>intro _
      exact .ret rfl ⟨rfl,hK3,λ_=>⟨xs2,hH2⟩⟩
     ·rw[if_pos rfl];repeat' first|refine X ?_|exact yaF|refine yaS ?_ ?_<;>intro _
      exact .ret rfl ⟨rfl,hK3,λh=>by cases h⟩
  ·rw[if_neg hc0];generalize c.2=e at hc0⊢;repeat' first|refine X ?_|exact yaF|refine yaS ?_ ?_<;>intro _
   exact .ret rfl ⟨rfl,hk1,λh=>absurd h hc0⟩
 ·rw[if_neg hab];generalize zbs s[k] vals=e at ca hab⊢;repeat' first|refine X ?_|refine yaC (ca) ?_|exact yaF|refine yaS ?_ ?_<;>intro _
  exact .ret rfl ⟨rfl,.refl,λh=>absurd h hab⟩
theorem zho(s:List wc)(db:List Data)(hd:db.length<=60)(hr:∀d∈db,d.rows.length<=60/\∀r∈d.rows,r.vals≠[]/\r.vals.length<=34359738368)(hrise:∀d∈db,Rise d.rows)(f:Nat)(pre cap:List Ce)(q:Res)(hq:q.2=0->∀d∈q.1,Rise d.rows)(G:jb){n x:Nat}{y:Nat×List (List Ce)}(hx:x<G.next)(hn:n<=G.next)
 (hf:∀L xs V,ju L G.next s xs db V->V.get x=G.get x->Ok Tryz.prog f (pre.map .c++[.c (.ptr L.c L.vc 0 0)]++cap.map .c) V (λr V'=>r=.c (.int .i64 q.2)/\Kept n V V'/\V'.get x=some y/\(q.2=0->∃xs',ju L G.next s xs' q.1 V'))):
 Ok Tryz.prog 136 [.c (.fz (s.map ja)),.c (.fz (db.map wa)),.c (.fn f pre cap)] G (λr V=>Kept n G V/\V.get x=some y/\∃z,r=.tup [.c z,.c (.int .i64 (topR db q).2)]/\Has V (λa=>G.next<=a/\a<V.next) (.fz ((topR db q).1.map wa)) z):=by
 refine Ok.run0 mixed wbo gz λhS hA=>?_;clear hS hA;repeat' first|refine X ?_|exact yaF|refine yaS ?_ ?_<;>intro _
 refine .call _ rfl rfl rfl (jbe db hd hr G) ?_;rintro r9 V1 ⟨o,vo,xs,junk,hr9,hK1,hD1⟩;rw[hr9];clear hr9;have hH:=hD1.holds (s:=s) hK1.next;have hK2:Kept G.next G (V1.new (0,[[.fz (s.map ja),vec o vo (cells xs) junk]])):=hK1.trans (.new hK1.next);repeat' first|refine X ?_|((first|apply yG|apply yH|apply yI);exact rfl;(first|exact why rfl))|exact yaF|refine yaS ?_ ?_<;>intro _
 refine .call _ rfl rfl rfl (hf _ _ _ hH (hK2.get x hx)) ?_;rintro r9 V2 ⟨hr9,hk2,hg2,hq2⟩;rw[hr9];have hK3:=(hK2.mono hn).trans hk2;by_cases h0:q.2=0
 ·obtain⟨xs2,hH2⟩:=hq2 h0;rw[topR,if_pos h0,h0];repeat' first|refine X ?_|((first|apply yG|apply yH|apply yI);exact rfl;(first|exact wbs hH2 rfl))|exact yaF|refine yaS ?_ ?_<;>intro _
  exact .ret rfl ⟨hK3,hg2,_,rfl,(hH2.has (hq h0)).mono λa ha=>⟨ha.1,ha.2.1⟩⟩
 ·rw[topR,if_neg h0];generalize q.2=e at h0⊢;repeat' first|refine X ?_|exact yaF|refine yaS ?_ ?_<;>intro _
  refine .call _ rfl rfl rfl (jbe db hd hr V2) ?_;rintro r9 V3 ⟨o3,vo3,xs3,junk3,hr9,hK4,hD4⟩;rw[hr9];have hnx:G.next<=V2.next:=yaj hK2.next hk2.next;repeat' first|refine X ?_|exact yaF|refine yaS ?_ ?_<;>intro _
  exact .ret rfl ⟨hK3.trans (hK4.mono (yaj hn hnx)),(hK4.get x (yaw hx hnx)).trans hg2,_,rfl,(hD4.has hK4.next hrise).mono λa ha=>⟨yaj hnx ha.1,ha.2⟩⟩
theorem ju.above(h:ju L n s xs db V){x:Nat}{y:Nat×List (List Ce)}(hx:x<n):ju L n s xs db (V.put x y) where
 c:=(if_neg (by have:=h.nc;omega)).trans h.c
 d:=(if_neg (by have:=h.nd;omega)).trans h.d
 jk:=h.jk
 len:=h.len
 tb:=let⟨lab,hl⟩:=h.tb;⟨lab,λi h3 h2=>(hl i h3 h2).frame (λw a ha=>ha) λw a ha=>if_neg (by have:=ha.2.1;omega)⟩
 nc:=h.nc
 nd:=h.nd
 cd:=h.cd
 lc:=h.lc
 ld:=h.ld
def topI(db:List Data)(q:Ins):Ins:=if q.2.2=0 then q else(db,0,q.2.2)
def InsF(s:List wc)(db:List Data)(n:Int)(vals:List Val)(rep:Bool):Ins:=
 if(dbF s db&&(isIn n 0 (s.length-1)&&fitF (tabN s n.toNat) vals))=true then topI db (insF (chgF s 12) s n.toNat (if rep then jg (tabN s n.toNat) 0 vals else vals) rep db)else([],0,1)
theorem zkg(h:¬(insF run s k vals rep db).2.2=0):(insF run s k vals rep db).2.1=0:=by
 revert h;rw[insF];split
 ·rw[insC];split
  ·rw[insD];split
   ·exactλ_=>rfl
   ·rw[insE];split
    ·exactλ_=>rfl
    ·exactλh=>absurd rfl h
  ·exactλ_=>rfl
 ·exactλ_=>rfl
theorem zi8(hs:SchG s){k:Nat}(hk:k<s.length){vals:List Val}(hvv:vals.length=s[k].cols.length/\jo vals 16=true){rep:Bool}{db:List Data}(h:DbG (jga k (zbg (jm db k))) s db)(h0:(insF (chgF s 12) s k vals rep db).2.2=0):DbG BI s (insF (chgF s 12) s k vals rep db).1:=by
 have hn9:1<=zbg (jm db k):=zea λr hr=>((h.at hk).ids r hr).1;revert h0;rw[insF,wq hk];split
 ·have hkc:=λ(h2:(z4 (chgF s 12) s[k] k ⟨zbg (jm db k),vals⟩ rep db).2=0)=>zbe (wah hs 12) hk (t:=s[k]) (x:=⟨zbg (jm db k),vals⟩) (rep:=rep) h h2;generalize z4 (chgF s 12) s[k] k ⟨zbg (jm db k),vals⟩ rep db=c at hkc⊢;rw[insC];split
  ·rename_i hc;have hdb1:=hkc hc;have hn1:k<c.1.length:=by rw[hdb1.len];exact hk
   have hR1:=hdb1.rows k hk hn1;have h60:=hR1.len;rw[insD,je hn1];split
   ·intro h
    cases h
   ·rename_i hno;rw[insE];split
    ·intro h
     cases h
    ·exactλ_=>hdb1.next.set hk (hR1.snoc rfl hn9 O O hvv)
  ·rename_i hc;exactλh=>absurd h hc
 ·rename_i hc;exactλh=>absurd h hc
theorem dbB(h:dbF s db=true):DbG BI s db:=by
 obtain⟨h1,h2,h3⟩:=jbd h;refine dbG h λi hi r hr=>?_;obtain⟨h5,h6⟩:=(jat (h3 i O hi)).2 r hr;simp only[isIn,Bool.and_eq_true,decide_eq_true_eq]at h6;exact h6
theorem zhz(h:DbG BI s db){k:Nat}(hk:k<s.length):DbG (jga k (zbg (jm db k))) s db:=by
 refine⟨h.len,λi h1 h2=>?_⟩;have hR:=h.rows i h1 h2;refine⟨hR.len,λr hr=>⟨(hR.ids r hr).1,(hR.ids r hr).2,λe=>?_⟩,hR.rise,hR.fit⟩;subst e;rw[je h2];exact ji7 hR.rise r hr
theorem HasV.three{S:Nat->Prop}{y x:Ce}{k:IntKind}{z z2:Int}(h:Has V S y x):HasV V S (.tup [.c y,.c (.int k z),.c (.int k z2)]) (.tup [.c x,.c (.int k z),.c (.int k z2)]):=by
 refine .tup (λi a=>i=0/\S a) rfl (λi a ha=>ha.2) (λi i' a h1 h2=>h1.1.trans h2.1.symm) λi hy hx=>?_;have hi:i<3:=hy;have hi3:i=0\/i=1\/i=2:=O;rcases hi3 with rfl|rfl|rfl
 ·exact .c (h.mono λa ha=>⟨rfl,ha⟩)
 ·exact .c (.c (.int _ _))
 ·exact .c (.c (.int _ _))
theorem wga{x:Nat}(hs:SchG s){k:Nat}(hk:k<s.length)(vals:List Val)(rep:Bool)(hl:vals.length=s[k].cols.length)(hv:jo vals 16=true)(db:List Data)(hdb:DbG (jga k (zbg (jm db k))) s db)(xs:List Ce)(V:jb)(h:ju L n s xs db V)(hx:x<n)(hg:V.get x=some (0,[[.int .i64 0]])):
 Ok Tryz.prog 137 [.c (.ptr L.c L.vc 0 0),.c (.fp [.int .i64 (k:Int)]),.c (.fp [.fz (vals.map encV)]),.c (.fp [.bool rep]),.c (.ptr x 0 0 0)] V (λr V'=>r=.c (.int .i64 (insF (chgF s 12) s k (if rep then jg s[k] 0 vals else vals) rep db).2.2)/\Kept x V V'/\V'.get x=some (0,[[.int .i64 (insF (chgF s 12) s k (if rep then jg s[k] 0 vals else vals) rep db).2.1]])/\
  ((insF (chgF s 12) s k (if rep then jg s[k] 0 vals else vals) rep db).2.2=0->∃xs',ju L n s xs' (insF (chgF s 12) s k (if rep then jg s[k] 0 vals else vals) rep db).1 V')):=by
 refine Ok.run0 mixed zb6 gz λhS hA=>?_;clear hS hA;have c1:=wg0 hs hk vals rep db rfl xs V h hdb hl hv;generalize insF (chgF s 12) s k (if rep then jg s[k] 0 vals else vals) rep db=q at c1⊢;repeat' first|refine X ?_|exact yaF|refine yaS ?_ ?_<;>intro _
 refine .call _ rfl rfl rfl c1 ?_;rintro r9 V2 ⟨hr9,hk2,hq2⟩;rw[hr9];have hg2:V2.get x=some (0,[[.int .i64 0]]):=(hk2.get x hx).trans hg;repeat' first|refine X ?_|((first|apply yG|apply yH|apply yI);exact rfl;(first|exact zch rfl rfl hg2 rfl (Nat.zero_lt_succ _)))|exact yaF|refine yaS ?_ ?_<;>intro _
 exact .ret rfl ⟨rfl,(hk2.mono (Nat.le_of_lt hx)).trans (.put (yag _)),jap,λh0=>let⟨xs',hH⟩:=hq2 h0;⟨xs',hH.above hx⟩⟩
theorem jkg{q:Ins}(h:¬q.2.2=0->q.2.1=0):topI db q=((topR db (q.1,q.2.2)).1,q.2.1,(topR db (q.1,q.2.2)).2):=by
 rw[topI,topR];obtain⟨d,i,c⟩:=q;simp only at h⊢;split
 ·rename_i h0;subst h0
  rfl
 ·rename_i h0;rw[h h0]
theorem zgb(s:List wc)(db:List Data)(n:Int)(vals:List Val)(rep:Bool)(hx:s.length<=34359738368)(hb:∀t∈s,j6 34359738368 t)(hd:db.length<=34359738368)(hdb:∀d∈db,wcc 34359738368 d)(hv:vals.length<=34359738368)(hv2:∀v∈vals,bV 34359738368 v)(G:jb):
 Ok Tryz.prog 49 [.c (.fz (s.map ja)),.c (.fz (db.map wa)),.c (.int .i64 n),.c (.fz (vals.map encV)),.c (.bool rep)] G (NewV G (.tup [.c (.fz ((InsF s db n vals rep).1.map wa)),.c (.int .i64 (InsF s db n vals rep).2.1),.c (.int .i64 (InsF s db n vals rep).2.2)])):=by
 refine Ok.newV (Ok.run mixed zct gz λhS hA=>?_);clear hA;have hK0:Kept G.next G (E G []):=.ofE (yag _) _;have c1:=jhi s db hx hb hd hdb;have c2:=wfl s n hx;rw[InsF]
 cases h1:dbF s db
 ·rw[h1]at c1;rw[ybc,if_neg yai];repeat' first|refine yaN ?_|refine yaC (c1) ?_|refine yaC (c2) ?_|exact yaF|refine yaS ?_ ?_<;>intro _
  exact .ret rfl ⟨hK0,.three .nil⟩
 ·rw[h1]at c1;rw[yaxq]
  cases h2:isIn n 0 (s.length-1)
  ·rw[h2]at c2;rw[ybc,if_neg yai];repeat' first|refine yaN ?_|refine yaC (c1) ?_|refine yaC (c2) ?_|exact yaF|refine yaS ?_ ?_<;>intro _
   exact .ret rfl ⟨hK0,.three .nil⟩
  ·rw[h2]at c2;rw[yaxq];obtain⟨h3,h4⟩:=jcz h2;obtain⟨k,rfl⟩:∃k:Nat,n=(k:Int):=⟨n.toNat,O⟩;have hk:k<s.length:=O;rw[ybf,wq hk];have c3:=jhw s[k] vals hv
   cases hf:fitF s[k] vals
   ·rw[hf]at c3;rw[if_neg yai];repeat' first|refine yaN ?_|((first|apply yG|apply yH|apply yI);exact rfl;(first|exact yax ja rfl hk))|refine yaC (c1) ?_|refine yaC (c2) ?_|refine yaC (c3) ?_|exact yaF|refine yaS ?_ ?_<;>intro _
    exact .ret rfl ⟨hK0,.three .nil⟩
   ·rw[hf]at c3;rw[if_pos rfl];have hs:=schG (jbd h1).1 hb;have hdg:DbG BI s db:=dbB h1;obtain⟨b1,b2,b3⟩:=whn hs hdg;have hl:=(wab hf).1;have hva:=jbj hf (hs.tab _ (yaa hk)).cols8;have hk2:k<db.length:=by rw[hdg.len];exact hk
    have hdn:=zhz (dbB h1) hk;have hkp:=zi8 hs hk (rep:=rep) (we1 hs hk hl hva rep) hdn;have hno:=zkg (run:=chgF s 12) (s:=s) (k:=k) (vals:=if rep then jg s[k] 0 vals else vals) (rep:=rep) (db:=db);have cf:=λ(L:ChL) (n x:Nat) (xs:List Ce) (V:jb) (hH:ju L n s xs db V) (hx:x<n) hg=>wga hs hk vals rep hl hva db hdn xs V hH hx hg;generalize insF (chgF s 12) s k (if rep then jg s[k] 0 vals else vals) rep db=q at hkp hno cf⊢;rw[jkg hno];repeat' first|refine yaN ?_|((first|apply yG|apply yH|apply yI);exact rfl;(first|exact yax ja rfl hk))|refine yaC (c1) ?_|refine yaC (c2) ?_|refine yaC (c3) ?_|exact yaF|refine yaS ?_ ?_<;>intro _
    have hgx:(E G [(0,[[.int .i64 0]])]).get (G.next+0)=some (0,[[Ce.int .i64 0]]):=by rw[E_at];rfl
    refine .call _ rfl rfl rfl (zho s db O (λd hd=>⟨(b3 d hd).2.1,λr hr=>⟨((b3 d hd).2.2 r hr).1,by have:=((b3 d hd).2.2 r hr).2.1;omega⟩⟩) (λd hd=>(b3 d hd).1) _ _ _ (q.1,q.2.2) (λh0 d hd=>((whn hs (hkp h0)).2.2 d hd).1) (E G [(0,[[.int .i64 0]])]) (n:=G.next+0) (x:=G.next+0) (y:=(0,[[.int .i64 q.2.1]])) (by show G.next+0<G.next+1;omega) (by show G.next+0<=G.next+1;omega) (λL xs V hH hg=>cf L _ _ xs V hH (by show G.next+0<G.next+1;omega) (hg.trans hgx))) ?_;rintro r9 V2 ⟨hK,hgy,z,hr9,hh⟩;rw[hr9];repeat' first|refine X ?_|((first|apply yG|apply yH|apply yI);exact rfl;(first|exact wz rfl hgy rfl (Nat.zero_lt_succ _)))|exact yaF|refine yaS ?_ ?_<;>intro _
    exact .ret rfl ⟨(Kept.ofE (yag _) _).trans hK,.three (hh.mono λa ha=>⟨yaj (ybg _) ha.1,ha.2⟩)⟩
theorem Fin.nil3{G:jb}{l:List (Nat×List (List Ce))}{z z2:Int}:Fin G (.tup [.c (.fz []),.c (.int .i64 z),.c (.int .i64 z2)]) (.tup [.c .nils,.c (.int .i64 z),.c (.int .i64 z2)]) (E G l):=by
 refine⟨l,rfl,.tup rfl λi hi=>?_⟩;have hi2:i<3:=hi;have hi3:i=0\/i=1\/i=2:=O;rcases hi3 with rfl|rfl|rfl
 ·exact .c .nil
 ·exact .c (.same _ (.int _ _))
 ·exact .c (.same _ (.int _ _))
theorem wal(l:List Data)(z z2:Int)(n:Nat):∀y∈(AV.tup [.c (.fz (l.map wa)),.c (.int .i64 z),.c (.int .i64 z2)]).all,Old n y:=λy hy=>by
 simp only[AV.all,AV.all.allL,List.append_nil,List.mem_append,List.mem_singleton]at hy;rcases hy with rfl|rfl|rfl
 ·exact zj (z7 _)
 ·exact .int _ _
 ·exact .int _ _
def nil?{α:Type}(l:List α):Bool:=(l.length:Int)==0
def jff(x:Stmt):Bool:=if x.kind=1 then nil? x.wher&&nil? x.sets else if x.kind=2 then nil? x.rows else decide (x.kind=3)&&(nil? x.rows&&nil? x.sets)
def jcf(t:wc)(r:RowD):Bool:= !(r.id==0)|| !fitF t r.vals
def wcf(t:wc)(x:Stmt):Bool:= !(x.rows.any λr=>jcf t r)&&(waw x.wher t.cols.length&&wfe x.sets t.cols.length)
def l7F(s:List wc)(x:Stmt):Bool:=match whh s x.table with
 |none=>false
 |some u=>isIn x.policy 0 4&&(jff x&&(decide ((x.rows.length:Int)<=8)&&wcf u x))
def jih(s:List wc)(x:Stmt):Bool:=zn s&&l7F s x
theorem ji8(x:Stmt):Pure Tryz.prog 178 [.agg (wi x)] (.c (.bool (jff x))):=by
 refine yaq [1] jc5 λG=>?_;repeat' first|refine X ?_|exact yaF|refine yaS ?_ ?_<;>intro _
 all_goals refine .ret rfl (.bool ?_)
 all_goals simp only[jff,nil?]
 all_goals simp_all
theorem wih(r:RowD)(t:wc)(hx:r.vals.length<=34359738368):Pure Tryz.prog 180 [.agg (wb r),.c (.fp (ja t))] (.c (.bool (jcf t r))):=by
 refine yaq [2] zek λG=>?_;repeat' first|refine X ?_|((first|apply Go.pcallB|apply Go.spcallB|apply Qg.pcallB);(iterate 3 exact rfl);exact jhw t r.vals hx;intro _ _)|exact yaF|refine yaS ?_ ?_<;>intro _
 all_goals refine .ret rfl (.bool ?_)
 all_goals simp only[jcf]
 all_goals simp_all
theorem wi8(s:List wc)(x:Stmt)(hx:s.length<=34359738368)(hb:∀t∈s,j6 34359738368 t)(hq:wd6 34359738368 x):Pure Tryz.prog 80 [.c (.fz (s.map ja)),.agg (wi x)] (.c (.bool (jih s x))):=by
 refine yaq [3] jfw λG=>?_;obtain⟨q1,q2,q3,q4⟩:=hq;repeat' first|refine X ?_|fail
 refine .pcall rfl rfl rfl (zaz s x.table hx) ?_;rcases zdn (p:=λu:wc=>u.name==x.table) (l:=s) (i:=0) (ybe _)with hi|⟨n,hn,hi,hp⟩
 ·have hno:jih s x=false:=by rw[jih,l7F,wf6 hi];simp
  rw[hi];repeat' first|refine X ?_|((first|apply Go.pcallB|apply Go.spcallB|apply Qg.pcallB);(iterate 3 exact rfl);exact jcy s hx hb;intro _ _)|exact yaF|refine yaS ?_ ?_<;>intro _
  all_goals exact .ret rfl (.bool hno.symm)
 rw[Int.zero_add]at hi;have hyes:=zdc hi hn;have hnz:¬((n:Int)<0):=O;rw[hi];have hsat:jih s x=(zn s&&(isIn x.policy 0 4&&(jff x&&(decide ((x.rows.length:Int)<=8)&&wcf s[n] x)))):=by rw[jih,l7F,hyes]
 rw[hsat];clear hsat hyes hp hi;repeat' first|refine X ?_|((first|apply Go.pcallB|apply Go.spcallB|apply Qg.pcallB);(iterate 3 exact rfl);(first|exact jcy s hx hb|exact jd6 _ _ _|exact ji8 x);intro _ _)|exact yaF|refine yaS ?_ ?_<;>intro _
 all_goals try(refine .ret rfl (.bool ?_);clear hb q1 q2 q3 q4;simp_all;done)
 all_goals try(refine .ret rfl (.bool ?_);rw[decide_eq_false (p:=(x.rows.length:Int)<=8) O];simp;done)
 rename_i c p k c2 p2 k2 c3 p3 k3 k4;have hs:=nbF p k;have hc:=za3 hs _ (yaa hn);have hres:(zn s&&(isIn x.policy 0 4&&(jff x&&(decide ((x.rows.length:Int)<=8)&&wcf s[n] x))))=wcf s[n] x:=by
  rw[hs,nbF p2 k2,nbF p3 k3,decide_eq_true O];simp
 rw[hres];clear hres p k p2 k2 p3 k3;repeat' first|refine X ?_|((first|apply yG|apply yH|apply yI);exact rfl;(first|exact yax ja rfl hn))|((first|apply Go.pcallB|apply Go.spcallB|apply Qg.pcallB);(iterate 3 exact rfl);(first|exact zi mixed za7 w7 wb (λc=>.agg (wb c)) (λ_=>rfl) (λ_=>rfl) x.rows (λr=>jcf s[n] r) _ [] [.fp (ja s[n])] q2.1 (λj hj _=>wih _ _ (q2.2 _ (yaa hj)).1)|exact jfl x.wher s[n].cols.length q3.1 O O|exact zic x.sets s[n].cols.length q4.1 q4.2 O O);intro _ _)|exact yaF|refine yaS ?_ ?_<;>intro _
 all_goals refine .ret rfl (.bool ?_)
 all_goals rw[wcf]
 all_goals clear hb q1 q2 q3 q4
 all_goals simp_all
theorem zi9(s:List wc)(x:Stmt)(hs:zn s=true)(hx:s.length<=34359738368)(hb:∀t∈s,j6 34359738368 t)(hq:wd6 34359738368 x):Pure Tryz.prog 66 [.c (.fz (s.map ja)),.agg (wi x)] (.c (.bool (l7F s x))):=by
 refine yaq [3] wfv λG=>?_;obtain⟨q1,q2,q3,q4⟩:=hq;repeat' first|refine X ?_|fail
 refine .pcall rfl rfl rfl (wes s x.table hx) ?_;rcases zdn (p:=λu:wc=>u.name==x.table) (l:=s) (i:=0) (ybe _)with hi|⟨n,hn,hi,hp⟩
 ·have hno:l7F s x=false:=by rw[l7F,wf6 hi]
  rw[hi];repeat' first|refine X ?_|exact yaF|refine yaS ?_ ?_<;>intro _
  all_goals exact .ret rfl (.bool hno.symm)
 rw[Int.zero_add]at hi;have hyes:=zdc hi hn;have hnz:¬((n:Int)<0):=O;rw[hi];have hsat:l7F s x=(isIn x.policy 0 4&&(jff x&&(decide ((x.rows.length:Int)<=8)&&wcf s[n] x))):=by rw[l7F,hyes]
 rw[hsat];clear hsat hyes hp hi;repeat' first|refine X ?_|((first|apply Go.pcallB|apply Go.spcallB|apply Qg.pcallB);(iterate 3 exact rfl);exact wam _ _ _;intro _ _)|exact yaF|refine yaS ?_ ?_<;>intro _
 ·rename_i c p k;refine .ret rfl (.bool ?_);rw[nbT p k]
  rfl
 rename_i c p k;have hc:=za3 hs _ (yaa hn);rw[nbF p k,yaxq];clear p k hs hb;repeat' first|refine X ?_|((first|apply yG|apply yH|apply yI);exact rfl;(first|exact yax ja rfl hn))|exact yaF|refine yaS ?_ ?_<;>intro _
 refine Go.keep [3,6,7,8] (Go.loops (I:=λm fr V=>∃i:Nat,∃k:Int,m=x.rows.length-i/\i<=x.rows.length/\k=i/\(∀j (hj:j<x.rows.length),j<i->(!jcf s[n] x.rows[j])=true)/\
  fr=[(3,.c (.fp (wi x))),(6,.c (.fp (ja s[n]))),(7,.c (.int .i64 (s[n].cols.length:Int))),(8,.c (.int .i64 k))]/\V=E G []) ?_ _ _ _ ⟨0,_,rfl,yac _,rfl,λj _ h=>absurd h O,rfl,rfl⟩)
 rintro m fr V ⟨i,k,rfl,hi2,hk,hall,rfl,rfl⟩ hrec;generalize s[n]=t at hc hall hrec⊢;clear hnz c;by_cases hlt:i<x.rows.length
 ·repeat' first|refine X ?_|((first|apply yG|apply yH|apply yI);exact rfl;(first|exact yax wb hk hlt))|((first|apply Go.pcallB|apply Go.spcallB|apply Qg.pcallB);(iterate 3 exact rfl);exact zcj t x.rows[i].vals (q2.2 _ (yaa hlt)).1;intro _ _)|exact yaF|refine yaS ?_ ?_<;>intro _
  all_goals first
   |(have hbad:jcf t x.rows[i]=true:=(by rw[jcf];clear hrec hall;simp_all;done)
     refine .ret rfl (.bool ?_);rw[wcf,List.any_eq_true.2 ⟨x.rows[i],yaa hlt,hbad⟩];simp
     done)
   |(refine Go.keep [3,6,7,8] (hrec _ _ _ O ⟨i+1,_,rfl,hlt,jc hk O,upto (p:=λr:RowD=> !jcf t r) hall hlt ?_,rfl,rfl⟩)
     rw[jcf];clear hrec hall;simp_all
     done)
 have hrows:=wbw (p:=λr:RowD=> !jcf t r) (l:=x.rows) λj hj=>hall j hj O;have q5:=q2.1;clear hrec hall q2;simp only[Bool.not_not]at hrows;have hat:wcf t x=(waw x.wher t.cols.length&&wfe x.sets t.cols.length):=by rw[wcf,hrows];rfl
 rw[hat];clear hat hrows;have h0:(0:Int)<=t.cols.length:=O;have h1:(t.cols.length:Int)<=16:=O;have hw:=zj2 h0 h1;have hex:∀e:List Tok,e.length<=34359738368->Pure Tryz.prog 145 [.c (.fz (e.map zg)),.c (.int .i64 t.cols.length)] (.c (.bool (jav e t.cols.length))):=λe he=>wer e _ he O O;clear hc;generalize (t.cols.length:Int)=N at*;repeat' first|refine X ?_|exact yaF|refine yaS ?_ ?_<;>intro _
 refine Go.keep [3,7,9] (Go.loops (I:=λm fr V=>∃i:Nat,∃k:Int,m=x.sets.length-i/\i<=x.sets.length/\k=i/\zat N [] x.sets=zat N (x.sets.take i) (x.sets.drop i)/\
  fr=[(3,.c (.fp (wi x))),(7,.c (.int .i64 N)),(9,.c (.int .i64 k))]/\V=E G []) ?_ _ _ _ ⟨0,_,rfl,yac _,rfl,rfl,rfl,rfl⟩)
 rintro m fr V ⟨i,k,rfl,hi,hk,hsl,rfl,rfl⟩ hrec;by_cases hlt:i<x.sets.length
 ·have hd:=yab hlt;have hstep:zat N [] x.sets=(jcc N x.sets[i]&& !((x.sets.take i).any λy=>y.col==x.sets[i].col)&&zat N (x.sets.take (i+1)) (x.sets.drop (i+1))):=by
   rw[hsl,hd,zat,yah hlt]
  repeat' first|refine X ?_|((first|apply yG|apply yH|apply yI);exact rfl;(first|exact yax jq hk hlt))|((first|apply Go.pcallB|apply Go.spcallB|apply Qg.pcallB);(iterate 3 exact rfl);(first|exact wam _ _ _|exact hex x.sets[i].expr (q4.2 _ (yaa hlt)).1);intro _ _)|exact yaF|refine yaS ?_ ?_<;>intro _
  all_goals try(refine .ret rfl (.bool ?_);rw[wfe,hstep,jcc,<-hw];clear hrec hsl hstep hex;simp_all;done)
  have hcol:jcc N x.sets[i]=true:=(by rw[jcc,<-hw];clear hrec hsl hstep hex;simp_all)
  refine Go.keep [3,7,9,10] (Go.loops (I:=λm fr V=>∃j:Nat,∃q:Int,m=i-j/\j<=i/\q=j/\(∀a (ha:a<x.sets.length),a<j->(x.sets[a].col==x.sets[i].col)=false)/\
   fr=[(3,.c (.fp (wi x))),(7,.c (.int .i64 N)),(9,.c (.int .i64 k)),(10,.c (.int .i64 q))]/\V=E G []) ?_ _ _ _ ⟨0,_,rfl,yac _,rfl,λj _ h=>absurd h O,rfl,rfl⟩)
  rintro m fr V ⟨j,q,rfl,hj,hq,hall,rfl,rfl⟩ hrec2;by_cases hlj:j<i
  ·have hjl:j<x.sets.length:=O;repeat' first|refine X ?_|((first|apply yG|apply yH|apply yI);exact rfl;(first|exact yax jq hq hjl|exact yax jq hk hlt))|exact yaF|refine yaS ?_ ?_<;>intro _
   ·rename_i he;have hany:((x.sets.take i).any λy=>y.col==x.sets[i].col)=true:=List.any_eq_true.2 ⟨x.sets[j],List.mem_take_iff_getElem.2 ⟨j,O,rfl⟩,by simpa using he⟩;refine .ret rfl (.bool ?_);rw[wfe,hstep,hany];simp
   ·rename_i he;refine Go.keep [3,7,9,10] (hrec2 _ _ _ O ⟨j+1,_,rfl,hlj,jc hq O,λa ha h=>?_,rfl,rfl⟩);by_cases hja:a=j
    ·subst hja;simpa using he
    ·exact hall a ha O
  ·have hany:((x.sets.take i).any λy=>y.col==x.sets[i].col)=false:=by
    rw[ybq];intro y hy;obtain⟨a,ha,rfl⟩:=List.mem_take_iff_getElem.1 hy;have:=hall a O O;simp[this]
   clear hrec2 hall;repeat' first|refine X ?_|exact yaF|refine yaS ?_ ?_<;>intro _
   refine Go.keep [3,7,9] (hrec _ _ _ O ⟨i+1,_,rfl,hlt,jc hk O, ?_,rfl,rfl⟩);rw[hstep,hcol,hany]
   rfl
 have hsets:wfe x.sets N=true:=by
  rw[wfe,hsl,yad O]
  rfl
 clear hrec hsl;rw[hsets];repeat' first|refine X ?_|((first|apply Go.pcallB|apply Go.spcallB|apply Qg.pcallB);(iterate 3 exact rfl);exact hex x.wher q3.1;intro _ _)|exact yaF|refine yaS ?_ ?_<;>intro _
 all_goals refine .ret rfl (.bool ?_)
 all_goals have hadd1:IntKind.i64.wrap ((x.wher.length:Int)+x.sets.length)=x.wher.length+x.sets.length:=jh O O
 all_goals have hadd2:IntKind.i64.wrap ((x.rows.length:Int)+x.sets.length)=x.rows.length+x.sets.length:=jh O O
 all_goals simp only[jff,nil?,waw,hadd1,hadd2]
 all_goals clear hadd1 hadd2 hsets hex hw q1 q3 q4 hx hn
 all_goals have p1:(0:Int)<=x.rows.length:=O
 all_goals have p2:(0:Int)<=x.wher.length:=O
 all_goals have p3:(0:Int)<=x.sets.length:=O
 all_goals generalize (x.rows.length:Int)=a at*
 all_goals generalize (x.wher.length:Int)=b at*
 all_goals generalize (x.sets.length:Int)=c at*
 all_goals rw[Bool.eq_iff_iff]
 all_goals simp_all
 all_goals omega
def wav(t:wc)(old:List Val):List SetS->List Val->Option (List Val)
 |[],cur=>some cur
 |a::r,cur=>if((wa4 a.expr old).2&&((wa4 a.expr old).1.k==0||(wa4 a.expr old).1.k==wcq t a.col))=true then wav t old r (cur.set a.col.toNat (wa4 a.expr old).1)else none
def insJ(s:List wc)(k:Nat)(x:Stmt)(vals:List Val)(db:List Data):Res:=((insF (chgF s 12) s k (if(x.policy==3)=true then jg (tabN s k) 0 vals else vals) (x.policy==3) db).1,(insF (chgF s 12) s k (if(x.policy==3)=true then jg (tabN s k) 0 vals else vals) (x.policy==3) db).2.2)
def rowJ(s:List wc)(k:Nat)(x:Stmt)(r:RowD)(db:List Data):Res:=if x.kind=3 then chgF s 13 (.del k r.id) db else match wav (tabN s k) r.vals x.sets r.vals with
 |none=>([],8)
 |some vals=>chgF s 13 (.upd k r.id vals (x.policy==3)) db
def idJ(s:List wc)(k:Nat)(x:Stmt)(id:Int)(db:List Data):Res:=match jac (jm db k) id with
 |none=>([],-1)
 |some r=>rowJ s k x r db
def ze4(s:List wc)(k:Nat)(x:Stmt)(db:List Data):List (List Data->Res):=if x.kind=1 then x.rows.map λr=>insJ s k x r.vals else(jv (jm db k) x.wher).1.map λid=>idJ s k x id
def jd7(x:Stmt)(c:Int):Bool:=x.policy==2&&isIn c 2 4
def j4(db0:List Data)(x:Stmt):List (List Data->Res)->List Data->Int->Ins
 |[],now,m=>(now,0,m)
 |j::r,now,m=>if(j now).2=0 then j4 db0 x r (j now).1 (m+1)else if(j now).2=-1\/jd7 x (j now).2=true then j4 db0 x r now m else if x.policy=1/\¬(j now).2=5 then(now,(j now).2,m)else(db0,(j now).2,0)
def jb4(s:List wc)(k:Nat)(x:Stmt)(db:List Data):Ins:=if(jv (jm db k) x.wher).2=true then j4 db x (ze4 s k x db) db 0 else(db,8,0)
structure StG(t:wc)(x:Stmt):Prop where
 kind:x.kind=1\/x.kind=2\/x.kind=3
 ins:x.kind=1->x.wher=[]
 rows:x.rows.length<=8/\∀r∈x.rows,fitF t r.vals=true
 wher:x.wher.length<=24/\(0<x.wher.length->jav x.wher t.cols.length=true)
 sets:x.sets.length<=34359738368/\∀a∈x.sets,jcc t.cols.length a=true
theorem je4{n:Int}:∀{l pre:List SetS},zat n pre l=true->∀a∈l,jcc n a=true
 |[],_,_,a,h=>by cases h
 |y::r,pre,h,a,ha=>by
  simp only[zat,Bool.and_eq_true]at h;rcases List.mem_cons.1 ha with rfl|ha
  ·exact h.1.1
  ·exact je4 h.2 a ha
theorem jju{α:Type}{l:List α}:nil? l=true↔l=[]:=by
 rw[nil?,beq_iff_eq];constructor
 ·intro h;exact yam O
 ·intro h;rw[h]
  rfl
variable {x:Stmt}
theorem jhz(hq:wd6 34359738368 x)(h:l7F s x=true):∃k,∃hk:k<s.length,idxA (λu:wc=>u.name==x.table) s 0=(k:Int)/\StG s[k] x:=by
 rw[l7F]at h;rcases wcj (λu:wc=>u.name==x.table) s 0 with⟨h1,_⟩|⟨k,hk,h1,_⟩
 ·rw[wf6 h1]at h
  cases h
 ·have h2:idxA (λu:wc=>u.name==x.table) s 0=(k:Int):=by rw[h1];omega
  rw[zdc h2 hk]at h;simp only[Bool.and_eq_true,decide_eq_true_eq]at h;obtain⟨h3,h4,h5,h6⟩:=h;rw[wcf,yarq,yarq,Bool.not_eq_true']at h6;obtain⟨h7,h8,h9⟩:=h6;have hw:x.wher=[]\/jav x.wher s[k].cols.length=true:=by
   rw[waw,Bool.or_eq_true,beq_iff_eq]at h8;rcases h8 with h8|h8
   ·exact .inl (yam O)
   ·exact .inr h8
  refine⟨k,hk,h2, ?_, ?_,⟨O,λr hr=>?_⟩, ?_, ?_⟩
  ·rw[jff]at h4;split at h4
   ·rename_i h;exact .inl h
   ·split at h4
    ·rename_i h;exact .inr (.inl h)
    ·rw[yarq,decide_eq_true_eq]at h4;exact .inr (.inr h4.1)
  ·intro h1;rw[jff,if_pos h1,yarq]at h4;exact jju.1 h4.1
  ·rw[ybq]at h7;have:=h7 r hr;rw[jcf]at this;simp only[Bool.or_eq_true,Bool.not_eq_true',not_or,Bool.not_eq_false]at this;exact this.2
  ·rcases hw with hw|hw
   ·rw[hw];exact⟨Nat.zero_le _,λh=>by simp at h⟩
   ·exact⟨by have:=(jbr hw).1;omega,λ_=>hw⟩
  ·exact⟨hq.2.2.2.1,je4 h9⟩
theorem wfp{row:List Val}(hr:Oks row){n:Int}:∀{e:List Tok} {a:Int} {st q:List Val},wu n a e=true->Oks st->jfe row e st=some q->Oks q
 |[],a,st,q,_,hs,h=>by injection h with h;subst h;exact hs
 |t::e,a,st,q,hx,hs,h=>by
  obtain⟨h1,h2,h3⟩:=wcb hx;rw[jfe]at h;split at h
  ·rename_i hk;exact wfp hr h3 ((hs.take _).snoc (zeu (λh2=>wcx h1 h2) (hs.drop _) hr hk)) h
  ·cases h
theorem whz{e:List Tok}{row:List Val}(hr:Oks row)(he:jav e row.length=true)(h:(wa4 e row).2=true):zq (wa4 e row).1=true:=by
 obtain⟨_,he⟩:=jbr he;rw[wa4]at h⊢;split at h
 ·rename_i v r hq;exact wfp hr he (λv hv=>by simp at hv) hq v gx
 ·cases h
def wkg:Option (List Val)->AV
 |none=>.tup [.c .nils,.c (.bool false)]
 |some vals=>.tup [.c (.fz (vals.map encV)),.c (.bool true)]
theorem jgb:FrzV V n (.tup [.c .nils,.c (.bool false)]) (wkg none):=by
 refine .tup rfl λj hj=>?_;have hj2:j<2:=hj;have hj3:j=0\/j=1:=O;rcases hj3 with rfl|rfl
 ·exact .c (.same _ .nils)
 ·exact .c (.same _ (.bool _))
theorem jho(t:wc)(old:List Val)(sets:List SetS)(hl:old.length=t.cols.length)(h0:old≠[])(hv:jo old 16=true)(hs:sets.length<=34359738368)(ha:∀a∈sets,jcc t.cols.length a=true):
 Pure Tryz.prog 258 [.agg (ja t),.c (.fz (old.map encV)),.c (.fz (sets.map jq))] (wkg (wav t old sets old)):=by
 refine yaq [3] zem λG=>?_;obtain⟨hv16,hvo⟩:=ze.1 hv;have cm:=(wby old (yaj hv16 gb)).at0 G;repeat' first|refine X ?_|exact yaF|refine yaS ?_ ?_<;>intro _
 refine .call _ rfl rfl rfl cm ?_;rintro q V9 ⟨v,junk,hj,hq,ht⟩;rw[hq,ht];clear hq ht cm;repeat' first|refine X ?_|exact yaF|refine yaS ?_ ?_<;>intro _
 refine Go.keep [1,2,3,8,9] (Go.loops (I:=λm fr V=>∃(i:Nat) (k:Int) (cur:List Val),m=sets.length-i/\i<=sets.length/\k=i/\(cur.length=old.length/\wav t old sets old=wav t old (sets.drop i) cur)/\
  fr=[(1,.c (.fz (old.map encV))),(2,.c (.fz (sets.map jq))),(3,.c (.fp (ja t))),(8,.c (vec (G.next+0) v (old.map encV) junk)),(9,.c (.int .i64 k))]/\V=E G [(v,cur.map encV++junk)]) ?_ _ _ _ ⟨0,_,old,rfl,yac _,rfl,⟨rfl,rfl⟩,rfl,rfl⟩)
 rintro m fr V ⟨i,k,cur,rfl,hi,hk,⟨hcl,hst⟩,rfl,rfl⟩ hrec;by_cases hlt:i<sets.length
 ·have hsa:=ha _ (yaa hlt);rw[jcc,yarq]at hsa;obtain⟨hcol,hex⟩:=hsa;obtain⟨q1,q2⟩:=jcz hcol;rw[<-hl]at hex;obtain⟨he1,he2⟩:=jbr hex;have hcc:sets[i].col=(sets[i].col.toNat:Int):=O;have hct:sets[i].col.toNat<t.cols.length:=O;have hcv:sets[i].col.toNat<cur.length:=O;have hcm:sets[i].col.toNat<(old.map encV).length:=by rw[yae];omega
  have hkd:wcq t sets[i].col=t.cols[sets[i].col.toNat].kind:=wa2 hcc hct;have c1:=jgt sets[i].expr old O hv16 hvo he2;rw[yab hlt,wav,hkd]at hst;generalize wa4 sets[i].expr old=ev at c1 hst;obtain⟨w,b⟩:=ev;simp only at c1 hst
  cases b
  ·rw[ybc,if_neg yai]at hst;rw[hst];repeat' first|refine X ?_|((first|apply yG|apply yH|apply yI);exact rfl;(first|exact yax jq hk hlt|exact yax wd hcc hct))|refine yaC (c1) ?_|exact yaF|refine yaS ?_ ?_<;>intro _
   all_goals first
    |exact .ret rfl ⟨_,rfl,jgb⟩
    |(exfalso;simp_all;done)
  ·rw[yaxq]at hst;have hgo:wav t old sets old=wav t old (sets.drop (i+1)) (cur.set sets[i].col.toNat w)->∃(j:Nat) (kj:Int) (cur':List Val),sets.length-(i+1)=sets.length-j/\j<=sets.length/\kj=j/\(cur'.length=old.length/\wav t old sets old=wav t old (sets.drop j) cur')/\[(1,AV.c (.fz (old.map encV))),(2,.c (.fz (sets.map jq))),(3,.c (.fp (ja t))),(8,.c (vec (G.next+0) v (old.map encV) junk)),(9,.c (.int .i64 (IntKind.i64.wrap (k+1))))]=[(1,AV.c (.fz (old.map encV))),(2,.c (.fz (sets.map jq))),(3,.c (.fp (ja t))),(8,.c (vec (G.next+0) v (old.map encV) junk)),(9,.c (.int .i64 kj))]/\E G [(v,(cur.map encV++junk).set (0+sets[i].col.toNat) (wg (encV cur[sets[i].col.toNat]) 0 (encV w)))]=E G [(v,cur'.map encV++junk)]:=λh=>⟨i+1,_,_,rfl,hlt,jc hk O,⟨by rw[yaqq];exact hcl,h⟩,rfl,congrArg (E G) (congrArg (λz=>[(v,z)]) (jbz hcv _ w))⟩;by_cases h0:w.k=0
   ·rw[beq_iff_eq.2 h0,Bool.true_or,if_pos rfl]at hst;repeat' first|refine X ?_|((first|apply yG|apply yH|apply yI);exact rfl;(first|exact yax jq hk hlt|exact yax wd hcc hct|exact w5 (k:=0) rfl rfl hcc hcm rfl (zak hcv) rfl|exact wj (k:=0) rfl rfl rfl rfl (zak hcv) rfl gz))|refine yaC (c1) ?_|exact yaF|refine yaS ?_ ?_<;>intro _
    all_goals first
     |exact Go.keep [1,2,3,8,9] (hrec _ _ _ O (hgo hst))
     |(exfalso;simp_all;done)
   ·by_cases h1:w.k=t.cols[sets[i].col.toNat].kind
    ·rw[beq_iff_eq.2 h1,Bool.or_true,if_pos rfl]at hst;repeat' first|refine X ?_|((first|apply yG|apply yH|apply yI);exact rfl;(first|exact yax jq hk hlt|exact yax wd hcc hct|exact w5 (k:=0) rfl rfl hcc hcm rfl (zak hcv) rfl|exact wj (k:=0) rfl rfl rfl rfl (zak hcv) rfl gz))|refine yaC (c1) ?_|exact yaF|refine yaS ?_ ?_<;>intro _
     all_goals first
      |exact Go.keep [1,2,3,8,9] (hrec _ _ _ O (hgo hst))
      |(exfalso;simp_all;done)
    ·rw[beq_eq_false_iff_ne.2 h0,beq_eq_false_iff_ne.2 h1,if_neg gx]at hst;rw[hst];repeat' first|refine X ?_|((first|apply yG|apply yH|apply yI);exact rfl;(first|exact yax jq hk hlt|exact yax wd hcc hct|exact w5 (k:=0) rfl rfl hcc hcm rfl (zak hcv) rfl|exact wj (k:=0) rfl rfl rfl rfl (zak hcv) rfl gz))|refine yaC (c1) ?_|exact yaF|refine yaS ?_ ?_<;>intro _
     all_goals first
      |exact .ret rfl ⟨_,rfl,jgb⟩
      |(exfalso;simp_all;done)
 ·clear hrec;rw[yad O,wav]at hst;rw[hst];repeat' first|refine X ?_|exact yaF|refine yaS ?_ ?_<;>intro _
  refine .ret rfl ⟨_,rfl, ?_⟩;have hvv:vec (G.next+0) v (old.map encV) junk=vec (G.next+0) v (cur.map encV) junk:=by rw[vec,vec,yae,yae,hcl]
  rw[hvv];refine .tup rfl λj hj=>?_;have hj2:j<2:=hj;have hj3:j=0\/j=1:=O;rcases hj3 with rfl|rfl
  ·exact ja5 (k:=0) rfl (λe he x hx=>((ze2 e he).2 x hx).old _) (yag _)
  ·exact .c (.same _ (.bool _))
theorem wdf{t:wc}{old:List Val}:∀{sets:List SetS} {cur vals:List Val},wav t old sets cur=some vals->vals.length=cur.length
 |[],cur,vals,h=>by injection h with h;rw[<-h]
 |a::r,cur,vals,h=>by
  rw[wav]at h;split at h
  ·have:=wdf h;rwa [yaqq]at this
  ·cases h
theorem zdg{t:wc}{old:List Val}(ho:Oks old){n:Int}(hn:(old.length:Int)=n):∀{sets:List SetS} {cur vals:List Val},(∀a∈sets,jcc n a=true)->(∀v∈cur,zq v=true)->wav t old sets cur=some vals->∀v∈vals,zq v=true
 |[],cur,vals,_,hc,h=>by injection h with h;rw[<-h];exact hc
 |a::r,cur,vals,ha,hc,h=>by
  rw[wav]at h;split at h
  ·rename_i hk;rw[yarq]at hk;have hs:=ha a gx;rw[jcc,yarq,<-hn]at hs;have hw:=whz ho hs.2 hk.1;refine zdg ho hn (λa ha2=>ha a (by simp[ha2])) (λv hv=>?_) h;rcases ybj hv with hv|rfl
   ·exact hc v hv
   ·exact hw
  ·cases h
theorem who(hs:SchG s){k:Nat}(hk:k<s.length)(x:Stmt)(hx:x.kind=1)(id:Int)(vals:List Val)(hf:fitF s[k] vals=true)(db:List Data)(h:DbG BI s db):
 Pure Tryz.prog 163 [.c (.fz (s.map ja)),.c (.fz (db.map wa)),.c (.int .i64 (k:Int)),.agg (wi x),.c (.int .i64 id),.c (.fz (vals.map encV))] (resV (insJ s k x vals db)):=by
 refine yas wb6 λG=>?_;have hva:=jbj hf (hs.tab _ (yaa hk)).cols8;have hdn:=zhz h hk;have c1:=jg0 hs hk vals (x.policy==3) db rfl hdn (wab hf).1 hva;rw[insJ,wq hk];generalize insF (chgF s 12) s k (if(x.policy==3)=true then jg s[k] 0 vals else vals) (x.policy==3) db=q at c1⊢;obtain⟨qd,qi,qc⟩:=q;rw[resI]at c1;simp only at c1;have hr:resV (qd,qc)=.tup [.c (if qc=0 then .fz (qd.map wa)else .nils),.c (.int .i64 qc)]:=rfl;generalize hz:(if qc=0 then Ce.fz (qd.map wa)else .nils)=z at c1 hr;have hx1:(x.kind==1)=true:=beq_iff_eq.2 hx;repeat' first|refine X ?_|refine yaC (c1) ?_|exact yaF|refine yaS ?_ ?_<;>intro _
 all_goals first
  |contradiction
  |exact .ret rfl (Fin.same hr.symm (zh _ _))
theorem zhp(hs:SchG s){k:Nat}(hk:k<s.length)(x:Stmt)(hG:StG s[k] x)(hx:¬x.kind=1)(id:Int)(vals:List Val)(db:List Data)(h:DbG BI s db){r:RowD}(hr:jac (jm db k) id=some r):
 Pure Tryz.prog 163 [.c (.fz (s.map ja)),.c (.fz (db.map wa)),.c (.int .i64 (k:Int)),.agg (wi x),.c (.int .i64 id),.c (.fz (vals.map encV))] (resV (rowJ s k x r db)):=by
 refine yas wb6 λG=>?_;have hk2:k<db.length:=by rw[h.len];exact hk
 have hR:=h.rows k hk hk2;have hrun:=jhn (I:=BI) hs 13 0 gb rfl;have hid:r.id=id:=(zac hr).2;rw[rowJ];by_cases h3:x.kind=3
 ·rw[if_pos h3,hid];have c1:=hrun.del k id db r h hk hr;generalize chgF s 13 (.del k id) db=q at c1⊢;have hq:resV q=.tup [.c (if q.2=0 then .fz (q.1.map wa)else .nils),.c (.int .i64 q.2)]:=rfl;rw[hq]at c1;generalize (if q.2=0 then Ce.fz (q.1.map wa)else .nils)=z at c1 hq;repeat' first|refine X ?_|refine yaC (c1) ?_|exact yaF|refine yaS ?_ ?_<;>intro _
  all_goals first
   |contradiction
   |(exfalso;omega)
   |exact .ret rfl (Fin.same hq.symm (zh _ _))
 ·rw[if_neg h3];rw[je hk2]at hr;rcases jn db[k].rows id with⟨_,hx2⟩|⟨j,hj,hx1,hx2⟩
  ·rw[hx2]at hr
   cases hr
  ·rw[hx2]at hr;injection hr with hr;subst hr;have c2:=jau db[k] id (yaj hR.len gb);rw[hx1]at c2;obtain⟨hfl,hfv⟩:=hR.fit _ (yaa hj);have ht:=hs.tab _ (yaa hk);have hne:db[k].rows[j].vals≠[]:=λe=>by
    rw[e]at hfl;have:=ht.cols0;simp at hfl;omega
   have c3:=jho s[k] db[k].rows[j].vals x.sets hfl hne hfv hG.sets.1 hG.sets.2;rw[wq hk,hid]
   cases hvf:wav s[k] db[k].rows[j].vals x.sets db[k].rows[j].vals with
   |none=>
    rw[hvf]at c3;have c3:Pure _ _ _ (.tup [.c .nils,.c (.bool false)]):=c3;repeat' first|refine X ?_|((first|apply yG|apply yH|apply yI);exact rfl;(first|exact yax ja rfl hk|exact yax wa rfl hk2|exact yax wb rfl hj))|refine yaC (c2) ?_|refine yaC (c3) ?_|exact yaF|refine yaS ?_ ?_<;>intro _
    all_goals first
     |contradiction
     |(exfalso;omega)
     |exact .ret rfl (Fin.same rfl (zh ([],8) _))
   |some nv=>
    rw[hvf]at c3;have c3:Pure _ _ _ (.tup [.c (.fz (nv.map encV)),.c (.bool true)]):=c3;have hl2:nv.length=s[k].cols.length:=(wdf hvf).trans hfl;have hok2:jo nv 16=true:=ze.2 ⟨by rw[hl2,<-hfl];exact(ze.1 hfv).1,zdg (ze.1 hfv).2 (n:=s[k].cols.length) (by rw[hfl]) hG.sets.2 (ze.1 hfv).2 hvf⟩;have c4:=hrun.upd k id nv (x.policy==3) db h ⟨hk,hl2,hok2⟩;show Go _ _ _ _ (Fin G (resV (chgF s 13 (.upd k id nv (x.policy==3)) db))) _ _ _;generalize chgF s 13 (.upd k id nv (x.policy==3)) db=q at c4⊢;have hq:resV q=.tup [.c (if q.2=0 then .fz (q.1.map wa)else .nils),.c (.int .i64 q.2)]:=rfl;rw[hq]at c4;generalize (if q.2=0 then Ce.fz (q.1.map wa)else .nils)=z at c4 hq;repeat' first|refine X ?_|((first|apply yG|apply yH|apply yI);exact rfl;(first|exact yax ja rfl hk|exact yax wa rfl hk2|exact yax wb rfl hj))|refine yaC (c2) ?_|refine yaC (c3) ?_|refine yaC (c4) ?_|exact yaF|refine yaS ?_ ?_<;>intro _
    all_goals first
     |contradiction
     |(exfalso;omega)
     |exact .ret rfl (Fin.same hq.symm (zh _ _))
def wff:AFn:=⟨111,[.t 6,.t 7,.t 8],(oH [oBx 5 2,oP 6 (.mv (.k (.nils))),oMi 7 0,oMi 8 0] (oH [oM 20 0,oFa 21 1 5,oLf 22 21,oC 23 67 [.t 20,.t 22],oM 9 23] (oS (oD [[oM 25 1,oM 26 9,oIa 27 1 25 26,oLt 28 1 27,oFa 29 3 5,oLf 30 29],[oC 31 68 [.t 28,.t 30]],[oM 24 31],[oEx 32 24 0,oEx 33 24 1,oM 10 32],[oM 11 33]]) (oS (oH [oM 34 11,oUn 35 34] (oQ 35 (oH [oM 36 1,oM 6 36,oMi 7 8,oMi 8 0] .ret) .skip)) (oH [oM 37 10,oLn 38 37,oM 12 38] (oS (oH [oFa 39 0 5,oLf 40 39,oBk 41 .eql 40 1] (oQ 41 (oG [oFa 42 2 5,oLf 43 42,oLn 44 43,oM 12 44]) .skip)) (oH [oM 45 1,oM 13 45] (oH [oMi 14 0] (oS (oH [oMi 15 0] (.block 0 (.loop (oS (oH [oM 46 15,oM 47 12,oBt 48 .lss 46 47] (oQ 48 .skip (.exit 0))) (oS (.block 1 (oH [oMi 16 0] (oH [oP 51 (.mksl true 3 0 [.int .i64 0,.int .i64 0,.str []] []),oM 17 51] (oS (oH [oFa 52 0 5,oLf 53 52,oBk 54 .eql 53 1] (oQ 54 (oG [oFa 55 2 5,oLf 56 55,oM 57 15,oIa 58 2 56 57,oFa 59 1 58,oLf 60 59,oM 17 60]) (oH [oM 61 10,oM 62 15,oIa 63 1 61 62,oLf 64 63,oM 16 64] (oH [oM 65 13,oM 66 9,oIa 67 1 65 66,oLt 68 1 67,oM 69 16,oC 70 70 [.t 68,.t 69],oBk 71 .lss 70 0] (oQ 71 (.exit 1) .skip))))) (oH [oM 73 0,oM 74 13,oM 75 9,oLt 76 6 5,oM 77 16,oM 78 17,oC 79 163 [.t 73,.t 74,.t 75,.t 76,.t 77,.t 78],oM 72 79,oEx 80 72 0,oEx 81 72 1,oM 18 80,oM 19 81] (.block 2 (oH [oM 85 19,oBk 86 .eql 85 0,oM 84 86] (oQ 84 (oH [oM 87 18,oM 13 87] (oG [oM 88 14,oBk 89 .add 88 1,oM 14 89])) (oH [oFa 91 5 5,oLf 92 91,oBk 93 .eql 92 2,oM 94 93,otm 95 19 94,otc 96 72 [.t 95,(kI 2),(kI 4)] 94,oPa 97 94 96,oM 90 97] (oQ 90 .skip (oH [oFa 99 5 5,oLf 100 99,oBk 101 .eql 100 1,oM 102 101,otm 103 19 102,oT 104 (.bin .neq (.t 103) (kI 5)) 102,oPa 105 102 104,oM 98 105] (oQ 98 (oH [oM 106 13,oM 107 19,oM 108 14,oM 6 106,oM 7 107,oM 8 108] .ret) (oH [oM 82 1,oM 83 19,oM 6 82,oM 7 83,oMi 8 0] .ret))))))))))))) (oG [oM 49 15,oBk 50 .add 49 1,oM 15 50])))))) (oH [oM 109 13,oM 110 14,oM 6 109,oMi 7 0,oM 8 110] .ret))))))))))⟩
theorem jhp(hs:SchG s){k:Nat}(hk:k<s.length){x:Stmt}{vals:List Val}(hf:fitF s[k] vals=true){db:List Data}(h:DbG BI s db)(h0:(insJ s k x vals db).2=0):DbG BI s (insJ s k x vals db).1:=by
 have hva:=jbj hf (hs.tab _ (yaa hk)).cols8;have:=zi8 hs hk (rep:=x.policy==3) (we1 hs hk (wab hf).1 hva (x.policy==3)) (zhz h hk);rw[insJ,wq hk]at h0⊢;exact this h0
theorem ji9(hs:SchG s){k:Nat}(hk:k<s.length){x:Stmt}(hG:StG s[k] x){r:RowD}{db:List Data}(h:DbG BI s db)(hr:r∈jm db k)(h0:(rowJ s k x r db).2=0):DbG BI s (rowJ s k x r db).1:=by
 obtain⟨hfl,hfv⟩:=(h.at hk).fit r hr;have hkp:=wah (I:=BI) hs 13;revert h0;rw[rowJ];split
 ·exact hkp (.del k r.id) db h hk
 ·rw[wq hk]
  cases hvf:wav s[k] r.vals x.sets r.vals with
  |none=>exactλh=>by cases h
  |some nv=>
   have hl2:nv.length=s[k].cols.length:=(wdf hvf).trans hfl;have hok2:jo nv 16=true:=ze.2 ⟨by rw[hl2,<-hfl];exact(ze.1 hfv).1,zdg (ze.1 hfv).2 (n:=s[k].cols.length) (by rw[hfl]) hG.sets.2 (ze.1 hfv).2 hvf⟩;exact hkp (.upd k r.id nv (x.policy==3)) db h ⟨hk,hl2,hok2⟩
theorem zj3(hs:SchG s){k:Nat}(hk:k<s.length){x:Stmt}(hG:StG s[k] x){id:Int}{db:List Data}(h:DbG BI s db)(h0:(idJ s k x id db).2=0):DbG BI s (idJ s k x id db).1:=by
 revert h0;rw[idJ]
 cases hb:jac (jm db k) id with
 |none=>exactλh=>by cases h
 |some r=>exact ji9 hs hk hG h (zac hb).1
def Cod(run:Chg->List Data->Res):Prop:=∀op db,0<=(run op db).2
section
variable {run:Chg->List Data->Res}
theorem zcg(hr:Cod run){n:Nat}:∀(l:List Int) (db:List Data),0<=(wx run n l db).2
 |[],_=>ybe _
 |id::l,db=>by
  rw[wx];split
  ·exact zcg hr l db
  ·split
   ·exact zcg hr l _
   ·exact hr _ _
theorem zfq(hr:Cod run){t:wc}{n:Nat}{x:RowD}{rep:Bool}{db:List Data}:0<=(z4 run t n x rep db).2:=by
 rw[z4];split
 ·exact(by decide:(0:Int)<=4)
 ·exact zcg hr _ _
theorem wju(hr:Cod run){n:Nat}{y:Way}{wth:List Val}{gone:Bool}{x:RowD}{db:List Data}:0<=(oneF run n y wth gone x db).2:=by
 rw[oneF];split
 ·split
  ·exact ybe _
  ·exact(by decide:(0:Int)<=5)
 ·split
  ·exact hr _ _
  ·exact hr _ _
theorem jb0(hr:Cod run){n:Nat}{y:Way}{key wth:List Val}{gone:Bool}:∀(l:List Int) (db:List Data),0<=(z8 run n y key wth gone l db).2
 |[],_=>ybe _
 |id::l,db=>by
  rw[z8]
  cases jac (jm db n) id with
  |none=>exact jb0 hr l db
  |some x=>
   simp only;split
   ·split
    ·exact jb0 hr l _
    ·exact wju hr
   ·exact jb0 hr l db
theorem jdp(hr:Cod run){name:List UInt8}{i:Nat}{key wth:List Val}{gone:Bool}:∀(l:List Fk) (db:List Data),0<=(zax run name i key wth gone l db).2
 |[],_=>ybe _
 |f::l,db=>by
  rw[zax];split
  ·split
   ·exact jdp hr l _
   ·exact jb0 hr _ _
  ·exact jdp hr l db
theorem jcg(hr:Cod run){name:List UInt8}{key wth:List Val}{gone:Bool}:∀(i:Nat) (l:List wc) (db:List Data),0<=(waa run name key wth gone i l db).2
 |_,[],_=>ybe _
 |i,t::l,db=>by
  rw[waa];split
  ·exact jcg hr _ l _
  ·exact jdp hr _ _
theorem zg1:0<=zbs t vals:=by
 rw[zbs];split
 ·decide
 ·split<;>decide
theorem wi9{id:Int}:0<=(za0 s n id db).2:=by
 rw[za0]
 cases jac (jm db n) id with
 |none=>exact ybe _
 |some y=>
  simp only;split
  ·exact(by decide:(0:Int)<=5)
  ·exact ybe _
theorem zjv(hr:Cod run){s:List wc}{n:Nat}{id:Int}{vals:List Val}{rep:Bool}{db:List Data}:0<=(updF run s n id vals rep db).2:=by
 rw[updF];split
 ·rw[upd1];split
  ·cases jac (jm (z4 run (tabN s n) n ⟨id,vals⟩ rep db).1 n) id with
   |none=>exact(by decide:(0:Int)<=9)
   |some old=>
    simp only[upd3];split
    ·exact wi9
    ·rw[upd2];split
     ·exact ybe _
     ·exact jcg hr _ _ _
  ·exact zfq hr
 ·exact zg1
end
theorem jck{s:List wc}:∀k,Cod (chgF s k)
 |0,op,db=>by rw[chgF];exact(by decide:(0:Int)<=6)
 |k+1,.del n id,db=>by
  rw[chgF]
  cases jac (jm db n) id with
  |none=>exact(by decide:(0:Int)<=9)
  |some x=>exact jcg (jck k) _ _ _
 |k+1,.upd n id vals rep,db=>by
  rw[chgF];exact zjv (jck k)
theorem jjv:0<=(insF (chgF s 12) s k vals rep db).2.2:=by
 rw[insF];split
 ·rw[insC];split
  ·rw[insD];split
   ·exact(by decide:(0:Int)<=7)
   ·rw[insE];split
    ·exact(by decide:(0:Int)<=5)
    ·exact ybe _
  ·exact zfq (jck 12)
 ·exact zg1
theorem wgb:0<=(insJ s k x vals db).2:=jjv
theorem zh0{r:RowD}:0<=(rowJ s k x r db).2:=by
 rw[rowJ];split
 ·exact jck 13 _ _
 ·cases wav (tabN s k) r.vals x.sets r.vals with
  |none=>exact(by decide:(0:Int)<=8)
  |some nv=>exact jck 13 _ _
def insV(q:Ins):AV:=.tup [.c (.fz (q.1.map wa)),.c (.int .i64 q.2.1),.c (.int .i64 q.2.2)]
variable {w:List Tok}
theorem wdp:(jv l w).1.length<=l.length:=by
 have key:∀(l:List RowD) (acc ids:List Int),ww w l acc=some ids->ids.length<=acc.length+l.length:=by
  intro l
  induction l with
  |nil=>intro acc ids h;injection h with h;rw[<-h];simp
  |cons r l ih=>
   intro acc ids h;rw[ww]at h;split at h
   ·cases h
   ·have:=ih _ _ h;split at this
    ·simp at this⊢;omega
    ·simp at this⊢;omega
 rw[jv]
 cases h:ww w l []with
 |none=>simp
 |some ids=>simpa using key l [] ids h
set_option maxHeartbeats 4000000 in
theorem zja(hs:SchG s){k:Nat}(hk:k<s.length)(x:Stmt)(hG:StG s[k] x)(hidx:idxA (λu:wc=>u.name==x.table) s 0=(k:Int))(db:List Data)(h:DbG BI s db):
 Pure Tryz.prog 130 [.c (.fz (s.map ja)),.c (.fz (db.map wa)),.agg (wi x)] (insV (jb4 s k x db)):=by
 refine yaq [5,51] wff λG=>?_;have hk2:k<db.length:=by rw[h.len];exact hk
 have hR:=h.rows k hk hk2;have c1:=wes s x.table (yaj hs.few gb);rw[hidx]at c1;have c2:=NewV.pure (wdc db[k] x.wher (yaj hR.len gb) (yaj hG.wher.1 gb) λh0 r hr=>⟨(hR.fit r hr).2,by rw[(hR.fit r hr).1];exact hG.wher.2 h0⟩);have hml:=wdp (l:=db[k].rows) (w:=x.wher);have hr60:=hR.len;have hr8:=hG.rows.1;rw[jb4,ze4,je hk2];generalize jv db[k].rows x.wher=mf at c2 hml⊢;obtain⟨ids,b⟩:=mf;simp only at c2 hml⊢
 cases b
 ·rw[if_neg yai];repeat' first|refine X ?_|((first|apply yG|apply yH|apply yI);exact rfl;(first|exact yax wa rfl hk2))|refine yaC (c1) ?_|refine yaC (c2) ?_|exact yaF|refine yaS ?_ ?_<;>intro _
  exact .ret rfl (Fin.same rfl (wal _ _ _ _))
 ·rw[if_pos rfl];by_cases hx:x.kind=1
  ·rw[if_pos hx];have hx1:(x.kind==1)=true:=beq_iff_eq.2 hx;repeat' first|refine X ?_|((first|apply yG|apply yH|apply yI);exact rfl;(first|exact yax wa rfl hk2))|refine yaC (c1) ?_|refine yaC (c2) ?_|exact yaF|refine yaS ?_ ?_<;>intro _
   all_goals first
    |contradiction
    |skip
   refine Go.keep [0,1,5,9,10,12,13,14,15] (Go.loops (I:=λm fr V=>∃(i:Nat) (ki:Int) (now:List Data) (mc:Nat) (km:Int),m=x.rows.length-i/\i<=x.rows.length/\ki=i/\(DbG BI s now/\mc<=i/\km=mc/\j4 db x (x.rows.map λr=>insJ s k x r.vals) db 0=j4 db x ((x.rows.drop i).map λr=>insJ s k x r.vals) now km)/\
    fr=[(0,.c (.fz (s.map ja))),(1,.c (.fz (db.map wa))),(5,.c (.fp (wi x))),(9,.c (.int .i64 (k:Int))),(10,.c (.fz (ids.map encI))),(12,.c (.int .i64 (x.rows.length:Int))),(13,.c (.fz (now.map wa))),(14,.c (.int .i64 km)),(15,.c (.int .i64 ki))]/\V=E G []) ?_ _ _ _ ⟨0,_,db,0,_,rfl,yac _,rfl,⟨h,yag _,rfl,rfl⟩,rfl,rfl⟩)
   rintro m fr V ⟨i,ki,now,mc,km,rfl,hi,hki,⟨hnow,hmc,hkm,hst⟩,rfl,rfl⟩ hrec;by_cases hlt:i<x.rows.length
   ·have hfit:=hG.rows.2 _ (yaa hlt);have hw1:IntKind.i64.wrap (km+1)=km+1:=jh O O;have c3:=who hs hk x hx 0 x.rows[i].vals hfit now hnow;have hkp:=jhp hs hk (x:=x) hfit hnow;have hcd:=wgb (s:=s) (k:=k) (x:=x) (vals:=x.rows[i].vals) (db:=now);rw[yab hlt,ybi,j4]at hst;generalize insJ s k x x.rows[i].vals now=q at c3 hkp hst hcd;have hne:¬q.2=-1:=O;by_cases hq:q.2=0
    ·rw[if_pos hq]at hst;rw[j7 hq]at c3;have hnq:=hkp hq;rw[<-hw1]at hst;repeat' first|refine X ?_|((first|apply yG|apply yH|apply yI);exact rfl;(first|exact yax wb hki hlt))|refine yaC (c3) ?_|exact yaF|refine yaS ?_ ?_<;>intro _
     all_goals first
      |contradiction
      |exact Go.keep [0,1,5,9,10,12,13,14,15] (hrec _ _ _ O ⟨i+1,_,q.1,mc+1,_,rfl,hlt,jc hki O,⟨hnq,O,jc hkm O,hst⟩,rfl,rfl⟩)
    ·obtain⟨e,he⟩:∃e,q.2=e:=⟨_,rfl⟩;rw[if_neg hq,he]at hst;rw[he]at hq hne;rw[zab he hq]at c3;have c4:=wam e 2 4;rw[jd7]at hst;by_cases hp:x.policy=2
     ·rw[beq_iff_eq.2 hp,yaxq]at hst;have hp1:¬x.policy=1:=O
      cases hin:isIn e 2 4
      ·rw[hin]at c4 hst;rw[if_neg (λh=>by rcases h with h|h;exact hne h;cases h),if_neg (λh=>hp1 h.1)]at hst;rw[hst];repeat' first|refine X ?_|((first|apply yG|apply yH|apply yI);exact rfl;(first|exact yax wb hki hlt))|refine yaC (c4) ?_|refine yaC (c3) ?_|exact yaF|refine yaS ?_ ?_<;>intro _
       all_goals first
        |contradiction
        |exact .ret rfl (Fin.same rfl (wal _ _ _ _))
        |(exfalso;simp_all;done)
      ·rw[hin]at c4 hst;rw[if_pos (.inr rfl)]at hst;repeat' first|refine X ?_|((first|apply yG|apply yH|apply yI);exact rfl;(first|exact yax wb hki hlt))|refine yaC (c4) ?_|refine yaC (c3) ?_|exact yaF|refine yaS ?_ ?_<;>intro _
       all_goals first
        |contradiction
        |exact Go.keep [0,1,5,9,10,12,13,14,15] (hrec _ _ _ O ⟨i+1,_,now,mc,_,rfl,hlt,jc hki O,⟨hnow,O,hkm,hst⟩,rfl,rfl⟩)
        |(exfalso;simp_all;done)
     ·rw[beq_eq_false_iff_ne.2 hp,ybc,if_neg (λh=>by rcases h with h|h;exact hne h;cases h)]at hst;by_cases hp1:x.policy=1
      ·by_cases h5:e=5
       ·rw[if_neg (λh=>h.2 h5)]at hst;rw[hst];repeat' first|refine X ?_|((first|apply yG|apply yH|apply yI);exact rfl;(first|exact yax wb hki hlt))|refine yaC (c4) ?_|refine yaC (c3) ?_|exact yaF|refine yaS ?_ ?_<;>intro _
        all_goals first
         |contradiction
         |exact .ret rfl (Fin.same rfl (wal _ _ _ _))
         |(exfalso;simp_all;done)
       ·rw[if_pos ⟨hp1,h5⟩]at hst;rw[hst];repeat' first|refine X ?_|((first|apply yG|apply yH|apply yI);exact rfl;(first|exact yax wb hki hlt))|refine yaC (c4) ?_|refine yaC (c3) ?_|exact yaF|refine yaS ?_ ?_<;>intro _
        all_goals first
         |contradiction
         |exact .ret rfl (Fin.same rfl (wal _ _ _ _))
         |(exfalso;simp_all;done)
      ·rw[if_neg (λh=>hp1 h.1)]at hst;rw[hst];repeat' first|refine X ?_|((first|apply yG|apply yH|apply yI);exact rfl;(first|exact yax wb hki hlt))|refine yaC (c4) ?_|refine yaC (c3) ?_|exact yaF|refine yaS ?_ ?_<;>intro _
       all_goals first
        |contradiction
        |exact .ret rfl (Fin.same rfl (wal _ _ _ _))
        |(exfalso;simp_all;done)
   ·rw[yad O,List.map_nil,j4]at hst;rw[hst];repeat' first|refine X ?_|exact yaF|refine yaS ?_ ?_<;>intro _
    exact .ret rfl (Fin.same rfl (wal _ _ _ _))
  ·rw[if_neg hx];repeat' first|refine X ?_|((first|apply yG|apply yH|apply yI);exact rfl;(first|exact yax wa rfl hk2))|refine yaC (c1) ?_|refine yaC (c2) ?_|exact yaF|refine yaS ?_ ?_<;>intro _
   all_goals first
    |contradiction
    |skip
   refine Go.keep [0,1,5,9,10,12,13,14,15] (Go.loops (I:=λm fr V=>∃(i:Nat) (ki:Int) (now:List Data) (mc:Nat) (km:Int),m=ids.length-i/\i<=ids.length/\ki=i/\(DbG BI s now/\mc<=i/\km=mc/\j4 db x (ids.map λid=>idJ s k x id) db 0=j4 db x ((ids.drop i).map λid=>idJ s k x id) now km)/\
    fr=[(0,.c (.fz (s.map ja))),(1,.c (.fz (db.map wa))),(5,.c (.fp (wi x))),(9,.c (.int .i64 (k:Int))),(10,.c (.fz (ids.map encI))),(12,.c (.int .i64 (ids.length:Int))),(13,.c (.fz (now.map wa))),(14,.c (.int .i64 km)),(15,.c (.int .i64 ki))]/\V=E G []) ?_ _ _ _ ⟨0,_,db,0,_,rfl,yac _,rfl,⟨h,yag _,rfl,rfl⟩,rfl,rfl⟩)
   rintro m fr V ⟨i,ki,now,mc,km,rfl,hi,hki,⟨hnow,hmc,hkm,hst⟩,rfl,rfl⟩ hrec;by_cases hlt:i<ids.length
   ·have hw1:IntKind.i64.wrap (km+1)=km+1:=jh O O;have hn3:k<now.length:=by rw[hnow.len];exact hk
    have hRn:=hnow.rows k hk hn3;rw[yab hlt,ybi,j4]at hst;have c5:=jau now[k] ids[i] (yaj hRn.len gb);rcases jn now[k].rows ids[i]with⟨hx1,hx2⟩|⟨j,hj,hx1,hx2⟩
    ·rw[hx1]at c5;have hno:idJ s k x ids[i] now=([],-1):=by rw[idJ,je hn3,hx2]
     rw[hno,if_neg gb,if_pos (.inl rfl)]at hst;repeat' first|refine X ?_|((first|apply yG|apply yH|apply yI);exact rfl;(first|exact yax encI hki hlt|exact yax wa rfl hn3))|refine yaC (c5) ?_|exact yaF|refine yaS ?_ ?_<;>intro _
     all_goals first
      |contradiction
      |exact Go.keep [0,1,5,9,10,12,13,14,15] (hrec _ _ _ O ⟨i+1,_,now,mc,_,rfl,hlt,jc hki O,⟨hnow,O,hkm,hst⟩,rfl,rfl⟩)
    ·rw[hx1]at c5;have hrow:jac (jm now k) ids[i]=some now[k].rows[j]:=by rw[je hn3];exact hx2
     have hno:idJ s k x ids[i] now=rowJ s k x now[k].rows[j] now:=by rw[idJ,hrow]
     rw[hno]at hst;have c3:=zhp hs hk x hG hx ids[i] [] now hnow hrow;have hkp:=ji9 hs hk hG hnow (zac hrow).1;have hcd:=zh0 (s:=s) (k:=k) (x:=x) (r:=now[k].rows[j]) (db:=now);generalize rowJ s k x now[k].rows[j] now=q at c3 hkp hst hcd;have hne:¬q.2=-1:=O;by_cases hq:q.2=0
     ·rw[if_pos hq]at hst;rw[j7 hq]at c3;have hnq:=hkp hq;rw[<-hw1]at hst;repeat' first|refine X ?_|((first|apply yG|apply yH|apply yI);exact rfl;(first|exact yax encI hki hlt|exact yax wa rfl hn3))|refine yaC (c5) ?_|refine yaC (c3) ?_|exact yaF|refine yaS ?_ ?_<;>intro _
      all_goals first
       |contradiction
       |exact Go.keep [0,1,5,9,10,12,13,14,15] (hrec _ _ _ O ⟨i+1,_,q.1,mc+1,_,rfl,hlt,jc hki O,⟨hnq,O,jc hkm O,hst⟩,rfl,rfl⟩)
     ·obtain⟨e,he⟩:∃e,q.2=e:=⟨_,rfl⟩;rw[if_neg hq,he]at hst;rw[he]at hq hne;rw[zab he hq]at c3;have c4:=wam e 2 4;rw[jd7]at hst;by_cases hp:x.policy=2
      ·rw[beq_iff_eq.2 hp,yaxq]at hst;have hp1:¬x.policy=1:=O
       cases hin:isIn e 2 4
       ·rw[hin]at c4 hst;rw[if_neg (λh=>by rcases h with h|h;exact hne h;cases h),if_neg (λh=>hp1 h.1)]at hst;rw[hst];repeat' first|refine X ?_|((first|apply yG|apply yH|apply yI);exact rfl;(first|exact yax encI hki hlt|exact yax wa rfl hn3))|refine yaC (c4) ?_|refine yaC (c5) ?_|refine yaC (c3) ?_|exact yaF|refine yaS ?_ ?_<;>intro _
        all_goals first
         |contradiction
         |exact .ret rfl (Fin.same rfl (wal _ _ _ _))
         |(exfalso;simp_all;done)
       ·rw[hin]at c4 hst;rw[if_pos (.inr rfl)]at hst;repeat' first|refine X ?_|((first|apply yG|apply yH|apply yI);exact rfl;(first|exact yax encI hki hlt|exact yax wa rfl hn3))|refine yaC (c4) ?_|refine yaC (c5) ?_|refine yaC (c3) ?_|exact yaF|refine yaS ?_ ?_<;>intro _
        all_goals first
         |contradiction
         |exact Go.keep [0,1,5,9,10,12,13,14,15] (hrec _ _ _ O ⟨i+1,_,now,mc,_,rfl,hlt,jc hki O,⟨hnow,O,hkm,hst⟩,rfl,rfl⟩)
         |(exfalso;simp_all;done)
      ·rw[beq_eq_false_iff_ne.2 hp,ybc,if_neg (λh=>by rcases h with h|h;exact hne h;cases h)]at hst;by_cases hp1:x.policy=1
       ·by_cases h5:e=5
        ·rw[if_neg (λh=>h.2 h5)]at hst;rw[hst];repeat' first|refine X ?_|((first|apply yG|apply yH|apply yI);exact rfl;(first|exact yax encI hki hlt|exact yax wa rfl hn3))|refine yaC (c4) ?_|refine yaC (c5) ?_|refine yaC (c3) ?_|exact yaF|refine yaS ?_ ?_<;>intro _
         all_goals first
          |contradiction
          |exact .ret rfl (Fin.same rfl (wal _ _ _ _))
          |(exfalso;simp_all;done)
        ·rw[if_pos ⟨hp1,h5⟩]at hst;rw[hst];repeat' first|refine X ?_|((first|apply yG|apply yH|apply yI);exact rfl;(first|exact yax encI hki hlt|exact yax wa rfl hn3))|refine yaC (c4) ?_|refine yaC (c5) ?_|refine yaC (c3) ?_|exact yaF|refine yaS ?_ ?_<;>intro _
         all_goals first
          |contradiction
          |exact .ret rfl (Fin.same rfl (wal _ _ _ _))
          |(exfalso;simp_all;done)
       ·rw[if_neg (λh=>hp1 h.1)]at hst;rw[hst];repeat' first|refine X ?_|((first|apply yG|apply yH|apply yI);exact rfl;(first|exact yax encI hki hlt|exact yax wa rfl hn3))|refine yaC (c4) ?_|refine yaC (c5) ?_|refine yaC (c3) ?_|exact yaF|refine yaS ?_ ?_<;>intro _
        all_goals first
         |contradiction
         |exact .ret rfl (Fin.same rfl (wal _ _ _ _))
         |(exfalso;simp_all;done)
   ·rw[yad O,List.map_nil,j4]at hst;rw[hst];repeat' first|refine X ?_|exact yaF|refine yaS ?_ ?_<;>intro _
    exact .ret rfl (Fin.same rfl (wal _ _ _ _))
set_option maxHeartbeats 1000000 in
theorem zii(t:wc)(x:Stmt)(old:List Val)(hl:old.length=t.cols.length)(h0:old≠[])(hv:jo old 16=true)(hs:x.sets.length<=34359738368)(ha:∀a∈x.sets,jcc t.cols.length a=true):
 Pure Tryz.prog 282 [.agg (wi x),.agg (ja t),.c (.fz (old.map encV))] (wkg (wav t old x.sets old)):=by
 refine yaq [3,4] wem λG=>?_;obtain⟨hv16,hvo⟩:=ze.1 hv;have cm:=jan old h0 (yaj hv16 gb) (E G []);repeat' first|refine X ?_|exact yaF|refine yaS ?_ ?_<;>intro _
 refine .call _ rfl rfl rfl cm ?_;rintro q V9 ⟨v,junk,hj,hq,ht⟩;rw[hq,ht,E_E];clear hq ht cm;repeat' first|refine X ?_|exact yaF|refine yaS ?_ ?_<;>intro _
 refine Go.keep [2,3,4,8,16,17,18] (Go.loops (I:=λm fr V=>∃(i:Nat) (k:Int) (cur:List Val),m=x.sets.length-i/\i<=x.sets.length/\k=i/\(cur.length=old.length/\wav t old x.sets old=wav t old (x.sets.drop i) cur)/\
  fr=[(2,.c (.fz (old.map encV))),(3,.c (.fp (wi x))),(4,.c (.fp (ja t))),(8,.c (vec (G.next+0) v (old.map encV) junk)),(16,.c (.fz (x.sets.map jq))),(17,.c (.int .i64 (x.sets.length:Int))),(18,.c (.int .i64 k))]/\V=E G [(v,cur.map encV++junk)]) ?_ _ _ _ ⟨0,_,old,rfl,yac _,rfl,⟨rfl,rfl⟩,rfl,rfl⟩)
 rintro m fr V ⟨i,k,cur,rfl,hi,hk,⟨hcl,hst⟩,rfl,rfl⟩ hrec;by_cases hlt:i<x.sets.length
 ·have hsa:=ha _ (yaa hlt);rw[jcc,yarq]at hsa;obtain⟨hcol,hex⟩:=hsa;obtain⟨q1,q2⟩:=jcz hcol;rw[<-hl]at hex;obtain⟨he1,he2⟩:=jbr hex;have hcc:x.sets[i].col=(x.sets[i].col.toNat:Int):=O;have hct:x.sets[i].col.toNat<t.cols.length:=O;have hcv:x.sets[i].col.toNat<cur.length:=O;have hcm:x.sets[i].col.toNat<(old.map encV).length:=by rw[yae];omega
  have hkd:wcq t x.sets[i].col=t.cols[x.sets[i].col.toNat].kind:=wa2 hcc hct;have c1:=wiu x.sets[i].expr old O (yaj hv16 gb);rw[jet,jdt,hv,hex,yaxq,if_pos rfl]at c1;have hwo:=whz hvo hex;rw[yab hlt,wav,hkd]at hst;generalize wa4 x.sets[i].expr old=ev at c1 hst hwo;obtain⟨w,b⟩:=ev;simp only at c1 hst hwo;have c2:=jhd w t.cols[x.sets[i].col.toNat].kind
  cases b
  ·rw[ybc,if_neg yai]at hst;rw[hst];repeat' first|refine X ?_|((first|apply yG|apply yH|apply yI);exact rfl;(first|exact yax jq hk hlt|exact yax wd hcc hct))|refine yaC (c1) ?_|refine yaC (c2) ?_|exact yaF|refine yaS ?_ ?_<;>intro _
   all_goals first
    |exact .ret rfl ⟨_,rfl,jgb⟩
    |(exfalso;simp_all;done)
  ·rw[jes,hwo rfl,yaxq]at c2;rw[yaxq]at hst;have hgo:wav t old x.sets old=wav t old (x.sets.drop (i+1)) (cur.set x.sets[i].col.toNat w)->∃(j:Nat) (kj:Int) (cur':List Val),x.sets.length-(i+1)=x.sets.length-j/\j<=x.sets.length/\kj=j/\(cur'.length=old.length/\wav t old x.sets old=wav t old (x.sets.drop j) cur')/\[(2,AV.c (.fz (old.map encV))),(3,.c (.fp (wi x))),(4,.c (.fp (ja t))),(8,.c (vec (G.next+0) v (old.map encV) junk)),(16,.c (.fz (x.sets.map jq))),(17,.c (.int .i64 (x.sets.length:Int))),(18,.c (.int .i64 (IntKind.i64.wrap (k+1))))]=[(2,AV.c (.fz (old.map encV))),(3,.c (.fp (wi x))),(4,.c (.fp (ja t))),(8,.c (vec (G.next+0) v (old.map encV) junk)),(16,.c (.fz (x.sets.map jq))),(17,.c (.int .i64 (x.sets.length:Int))),(18,.c (.int .i64 kj))]/\E G [(v,(cur.map encV++junk).set (0+x.sets[i].col.toNat) (wg (encV cur[x.sets[i].col.toNat]) 0 (encV w)))]=E G [(v,cur'.map encV++junk)]:=λh=>⟨i+1,_,_,rfl,hlt,jc hk O,⟨by rw[yaqq];exact hcl,h⟩,rfl,congrArg (E G) (congrArg (λz=>[(v,z)]) (jbz hcv _ w))⟩;generalize hbb:(w.k==0||w.k==t.cols[x.sets[i].col.toNat].kind)=bb at c2 hst
   cases bb
   ·rw[if_neg yai]at hst;rw[hst];repeat' first|refine X ?_|((first|apply yG|apply yH|apply yI);exact rfl;(first|exact yax jq hk hlt|exact yax wd hcc hct))|refine yaC (c1) ?_|refine yaC (c2) ?_|exact yaF|refine yaS ?_ ?_<;>intro _
    all_goals first
     |exact .ret rfl ⟨_,rfl,jgb⟩
     |(exfalso;simp_all;done)
   ·rw[if_pos rfl]at hst;repeat' first|refine X ?_|((first|apply yG|apply yH|apply yI);exact rfl;(first|exact yax jq hk hlt|exact yax wd hcc hct|exact w5 (k:=0) rfl rfl hcc hcm rfl (zak hcv) rfl|exact wj (k:=0) rfl rfl rfl rfl (zak hcv) rfl gz))|refine yaC (c1) ?_|refine yaC (c2) ?_|exact yaF|refine yaS ?_ ?_<;>intro _
    all_goals first
     |exact Go.keep [2,3,4,8,16,17,18] (hrec _ _ _ O (hgo hst))
     |(exfalso;simp_all;done)
 ·clear hrec;rw[yad O,wav]at hst;rw[hst];repeat' first|refine X ?_|exact yaF|refine yaS ?_ ?_<;>intro _
  refine .ret rfl ⟨_,rfl, ?_⟩;have hvv:vec (G.next+0) v (old.map encV) junk=vec (G.next+0) v (cur.map encV) junk:=by rw[vec,vec,yae,yae,hcl]
  rw[hvv];refine .tup rfl λj hj=>?_;have hj2:j<2:=hj;have hj3:j=0\/j=1:=O;rcases hj3 with rfl|rfl
  ·exact ja5 (k:=0) rfl (λe he x hx=>((ze2 e he).2 x hx).old _) (yag _)
  ·exact .c (.same _ (.bool _))
theorem zdq(a b c d:AV):Pure Tryz.prog 129 [a,b,c,d] (.c (.int .i64 0)):=by
 refine yaq [] ze7 λG=>?_;repeat' first|refine X ?_|exact yaF|refine yaS ?_ ?_<;>intro _
 exact .ret rfl (.int rfl)
theorem jja(x:Stmt)(c:Int):Pure Tryz.prog 187 [.agg (wi x),.c (.int .i64 c)] (.c (.bool (jd7 x c))):=by
 refine yaq [2] zc6 λG=>?_;rw[jd7];by_cases hp:x.policy=2
 ·rw[beq_iff_eq.2 hp,yaxq];by_cases h2:c=2
  ·subst h2;repeat' first|refine X ?_|exact yaF|refine yaS ?_ ?_<;>intro _
   all_goals first
    |contradiction
    |exact .ret rfl (.bool rfl)
  ·by_cases h3:c=3
   ·subst h3;repeat' first|refine X ?_|exact yaF|refine yaS ?_ ?_<;>intro _
    all_goals first
     |contradiction
     |exact .ret rfl (.bool rfl)
   ·by_cases h4:c=4
    ·subst h4;repeat' first|refine X ?_|exact yaF|refine yaS ?_ ?_<;>intro _
     all_goals first
      |contradiction
      |exact .ret rfl (.bool rfl)
    ·have hf:isIn c 2 4=false:=by
      rw[isIn,Bool.and_eq_false_iff,decide_eq_false_iff_not,decide_eq_false_iff_not];omega
     rw[hf];repeat' first|refine X ?_|exact yaF|refine yaS ?_ ?_<;>intro _
     all_goals first
      |contradiction
      |(refine .ret rfl (.bool ?_);simp_all;done)
 ·rw[beq_eq_false_iff_ne.2 hp,ybc];repeat' first|refine X ?_|exact yaF|refine yaS ?_ ?_<;>intro _
  all_goals first
   |contradiction
   |(refine .ret rfl (.bool ?_);simp_all;done)
theorem wjv(hs:SchG s){k:Nat}(hk:k<s.length)(x:Stmt)(r:RowD)(hf:fitF s[k] r.vals=true)(db:List Data)(hdb:DbG BI s db)(xs:List Ce)(V:jb)(h:ju L n s xs db V):
 Ok Tryz.prog 279 [.c (.ptr L.c L.vc 0 0),.c (.fp [.int .i64 (k:Int)]),.c (.fp (wb r)),.c (.fp [.bool (x.policy==3)]),.c (.fp [.fn 129 [] []])] V (Done L n s (insJ s k x r.vals db) V):=by
 refine Ok.run0 mixed wb7 gz λhS hA=>?_;clear hS hA;have hva:=jbj hf (hs.tab _ (yaa hk)).cols8;have c1:=wg0 hs hk r.vals (x.policy==3) db rfl xs V h (zhz hdb hk) (wab hf).1 hva;rw[insJ,wq hk];generalize insF (chgF s 12) s k (if(x.policy==3)=true then jg s[k] 0 r.vals else r.vals) (x.policy==3) db=q at c1⊢;obtain⟨qd,qi,qc⟩:=q;repeat' first|refine X ?_|exact yaF|refine yaS ?_ ?_<;>intro _
 refine .call _ rfl rfl rfl c1 ?_;rintro r9 V2 ⟨hr9,hk2,hq2⟩;rw[hr9];simp only at hq2⊢;clear hr9 c1;by_cases h0:qc=0
 ·subst h0;repeat' first|refine X ?_|((first|apply yQ|apply yR|apply yS);(iterate 3 exact rfl);exact zdq _ _ _ _)|exact yaF|refine yaS ?_ ?_<;>intro _
  exact .ret rfl ⟨rfl,hk2,hq2⟩
 ·repeat' first|refine X ?_|exact yaF|refine yaS ?_ ?_<;>intro _
  all_goals first
   |contradiction
   |exact .ret rfl ⟨rfl,hk2,hq2⟩
set_option maxHeartbeats 1000000 in
theorem zjw(hs:SchG s){k:Nat}(hk:k<s.length)(x:Stmt)(hG:StG s[k] x)(id:Int)(db:List Data)(hdb:DbG BI s db)(xs:List Ce)(V:jb)(h:ju L n s xs db V):
 Ok Tryz.prog 280 [.c (.ptr L.c L.vc 0 0),.c (.fp [.int .i64 (k:Int)]),.c (.fp [.int .i64 id]),.c (.fp (wi x)),.c (.fp [.fz (s.map ja)]),.c (.fp [.bool (x.policy==3)]),.c (.fp [.fn 129 [] []])] V (Done L n s (idJ s k x id db) V):=by
 refine Ok.run0 mixed zb8 gz λhS hA=>?_;have hk2:k<db.length:=by rw[hdb.len];exact hk
 have hk3:k<xs.length:=by rw[h.len];exact hk2
 have hR:=hdb.rows k hk hk2;have ht:=hs.tab _ (yaa hk);have cf:=jdo h hk2 hk3 id hR.len;have hrun:=wi5 (I:=BI) (L:=L) (n:=n) hs 13 0 gb rfl;rw[idJ,je hk2];repeat' first|refine X ?_|exact yaF|refine yaS ?_ ?_<;>intro _
 rcases jn db[k].rows id with⟨hx1,hx2⟩|⟨j,hj,hx1,hx2⟩
 ·rw[hx2];refine .call _ rfl rfl rfl (cf.1 hx2) ?_;rintro r9 V9 ⟨hr9,ht9⟩;rw[hr9,ht9];repeat' first|refine X ?_|exact yaF|refine yaS ?_ ?_<;>intro _
  exact .ret rfl ⟨rfl,.refl,λh=>by cases h⟩
 ·rw[hx2];show Go _ _ _ _ (Done L n s (rowJ s k x db[k].rows[j] db) V) _ _ _;have hrow:jac (jm db k) id=some db[k].rows[j]:=by rw[je hk2];exact hx2
  have hid:db[k].rows[j].id=id:=(zac hrow).2;obtain⟨hfl,hfv⟩:=hR.fit _ (yaa hj);have hne:db[k].rows[j].vals≠[]:=λe=>by
   rw[e]at hfl;have:=ht.cols0;simp at hfl;omega
  obtain⟨lab2,ps2,id2,v2,junk2,hat,hl2⟩:=h.any hk2 hk3;refine .call _ rfl rfl rfl (cf.2 j hj hx1 _ _ _ _ _ hat) ?_;rintro r9 V9 ⟨hr9,ht9⟩;rw[hr9,ht9];clear hr9 ht9;have cm:=Lend.made (.own (hat.frz hj) .nil) (jan db[k].rows[j].vals hne (yaj (ze.1 hfv).1 gb)) λe he=>(ze2 e he).2;repeat' first|refine X ?_|((first|apply yG|apply yH|apply yI);exact rfl;(first|exact wz rfl hat.get (hat.at hj) (yal _)))|exact yaF|refine yaS ?_ ?_<;>intro _
  refine .call _ rfl rfl rfl cm ?_;rintro q V9 ⟨v,junk,hjk,hq9,ht9⟩;rw[hq9,ht9];clear hq9 ht9 cm;repeat' first|refine X ?_|fail
  refine Go.freezeN (l:=[]) (m:=[(v,db[k].rows[j].vals.map encV++junk)]) (fr':=[(0,.c (.ptr L.c L.vc 0 0)),(1,.c (.fp [.int .i64 (k:Int)])),(2,.c (.fp [.int .i64 id])),(3,.c (.fp (wi x))),(4,.c (.fp [.fz (s.map ja)])),(5,.c (.fp [.bool (x.policy==3)])),(6,.c (.fp [.fn 129 [] []])),(10,.c (.fz (db[k].rows[j].vals.map encV))),(11,.c (.int .i64 8)),(27,.c (.bool (x.kind==3)))]) hS (λb hb=>by cases hb) (yag _)
   (.frz rfl (.refl (hA _ gx)) (.frz rfl (.refl (hA _ gx)) (.frz rfl (.refl (hA _ gx)) (.frz rfl (.refl (hA _ gx)) (.frz rfl (.refl (hA _ gx)) (.frz rfl (.refl (hA _ gx)) (.frz rfl (.refl (hA _ gx)) (.frz rfl (jbx (k:=0) rfl (yag _)) (.frz rfl (.refl wo) (.frz rfl (.refl wib) .nil)))))))))) ?_
  rw[wh4 hS];rw[rowJ];by_cases h3:x.kind=3
  ·rw[if_pos h3,hid,beq_iff_eq.2 h3];have c5:=hrun.del k id db xs V h hdb hk;generalize chgF s 13 (.del k id) db=q at c5⊢;repeat' first|refine X ?_|exact yaF|refine yaS ?_ ?_<;>intro _
   refine .call _ rfl rfl rfl c5 ?_;rintro r9 V9 ⟨hr9,hk9,hq9⟩;rw[hr9];clear hr9 c5;by_cases hq:q.2=0
   ·rw[hq];repeat' first|refine X ?_|((first|apply yQ|apply yR|apply yS);(iterate 3 exact rfl);exact zdq _ _ _ _)|exact yaF|refine yaS ?_ ?_<;>intro _
    exact .ret rfl ⟨by rw[hq],hk9,hq9⟩
   ·generalize hqe:q.2=e at hq⊢;repeat' first|refine X ?_|exact yaF|refine yaS ?_ ?_<;>intro _
    all_goals first
     |contradiction
     |exact .ret rfl ⟨by rw[hqe],hk9,hq9⟩
  ·rw[if_neg h3,beq_eq_false_iff_ne.2 h3,wq hk];have c3:=zii s[k] x db[k].rows[j].vals hfl hne hfv hG.sets.1 hG.sets.2
   cases hvf:wav s[k] db[k].rows[j].vals x.sets db[k].rows[j].vals with
   |none=>
    rw[hvf]at c3;have c3:Pure _ _ _ (.tup [.c .nils,.c (.bool false)]):=c3;repeat' first|refine X ?_|((first|apply yG|apply yH|apply yI);exact rfl;(first|exact yax ja rfl hk))|refine yaC (c3) ?_|exact yaF|refine yaS ?_ ?_<;>intro _
    exact .ret rfl ⟨rfl,.refl,λh=>by cases h⟩
   |some nv=>
    rw[hvf]at c3;have c3:Pure _ _ _ (.tup [.c (.fz (nv.map encV)),.c (.bool true)]):=c3;have hl2':nv.length=s[k].cols.length:=(wdf hvf).trans hfl;have hok2:jo nv 16=true:=ze.2 ⟨by rw[hl2',<-hfl];exact(ze.1 hfv).1,zdg (ze.1 hfv).2 (n:=s[k].cols.length) (by rw[hfl]) hG.sets.2 (ze.1 hfv).2 hvf⟩;have c5:=hrun.upd k id nv (x.policy==3) db xs V h hdb ⟨hk,hl2',hok2⟩;rw[hid];show Go _ _ _ _ (Done L n s (chgF s 13 (.upd k id nv (x.policy==3)) db) V) _ _ _;generalize chgF s 13 (.upd k id nv (x.policy==3)) db=q at c5⊢;repeat' first|refine X ?_|((first|apply yG|apply yH|apply yI);exact rfl;(first|exact yax ja rfl hk))|refine yaC (c3) ?_|exact yaF|refine yaS ?_ ?_<;>intro _
    refine .call _ rfl rfl rfl c5 ?_;rintro r9 V9 ⟨hr9,hk9,hq9⟩;rw[hr9];clear hr9 c5;by_cases hq:q.2=0
    ·rw[hq];repeat' first|refine X ?_|((first|apply yQ|apply yR|apply yS);(iterate 3 exact rfl);exact zdq _ _ _ _)|exact yaF|refine yaS ?_ ?_<;>intro _
     exact .ret rfl ⟨by rw[hq],hk9,hq9⟩
    ·generalize hqe:q.2=e at hq⊢;repeat' first|refine X ?_|exact yaF|refine yaS ?_ ?_<;>intro _
     all_goals first
      |contradiction
      |exact .ret rfl ⟨by rw[hqe],hk9,hq9⟩
def jdq(k:Nat)(x:Stmt)(r:RowD):Ce:=.fn 279 [] [.fp [.int .i64 (k:Int)],.fp (wb r),.fp [.bool (x.policy==3)],.fp [.fn 129 [] []]]
def wdq(s:List wc)(k:Nat)(x:Stmt)(id:Int):Ce:=.fn 280 [] [.fp [.int .i64 (k:Int)],.fp [.int .i64 id],.fp (wi x),.fp [.fz (s.map ja)],.fp [.bool (x.policy==3)],.fp [.fn 129 [] []]]
theorem wau{cs:List Ce}(h:∀c∈cs,Old n c):Old n (.fp cs):=.fp _ λj hj=>h _ (yaa hj)
theorem jh0:Old n (.fp [.fn 129 [] []]):=wau λc hc=>by
 rw[List.mem_singleton.1 hc];exact .fn _ _ _ (λi hi=>absurd hi (Nat.not_lt_zero i)) λi hi=>absurd hi (Nat.not_lt_zero i)
theorem jjw{r:RowD}:Old n (jdq k x r):=by
 refine .fn _ _ _ (λi hi=>absurd hi (Nat.not_lt_zero i)) λi hi=>?_;have h:∀c∈[Ce.fp [.int .i64 (k:Int)],.fp (wb r),.fp [.bool (x.policy==3)],.fp [.fn 129 [] []]],Old n c:=λc hc=>by
  simp only[List.mem_cons,List.not_mem_nil,or_false]at hc;rcases hc with rfl|rfl|rfl|rfl
  ·exact wau λc hc=>by rw[List.mem_singleton.1 hc];exact .int _ _
  ·refine wau λc hc=>?_;simp only[wb,List.mem_cons,List.not_mem_nil,or_false]at hc;rcases hc with rfl|rfl
   ·exact .int _ _
   ·exact jas _ (List.mem_singleton.2 rfl)
  ·exact wau λc hc=>by rw[List.mem_singleton.1 hc];exact .bool _
  ·exact jh0
 exact h _ (yaa hi)
theorem wjw{id:Int}(hx:∀c∈wi x,Old n c):Old n (wdq s k x id):=by
 refine .fn _ _ _ (λi hi=>absurd hi (Nat.not_lt_zero i)) λi hi=>?_;have h:∀c∈[Ce.fp [.int .i64 (k:Int)],.fp [.int .i64 id],.fp (wi x),.fp [.fz (s.map ja)],.fp [.bool (x.policy==3)],.fp [.fn 129 [] []]],Old n c:=λc hc=>by
  simp only[List.mem_cons,List.not_mem_nil,or_false]at hc;rcases hc with rfl|rfl|rfl|rfl|rfl|rfl
  ·exact wau λc hc=>by rw[List.mem_singleton.1 hc];exact .int _ _
  ·exact wau λc hc=>by rw[List.mem_singleton.1 hc];exact .int _ _
  ·exact wau hx
  ·exact wau λc hc=>by rw[List.mem_singleton.1 hc];exact zbt _ (List.mem_singleton.2 rfl)
  ·exact wau λc hc=>by rw[List.mem_singleton.1 hc];exact .bool _
  ·exact jh0
 exact h _ (yaa hi)
theorem wh0{G V:jb}{ys junk:List (List Ce)}{v:Nat}{b:Bool}(ho:∀e∈ys,∀x∈e,Old G.next x):FrzV (E G [(v,ys++junk)]) G.next (.tup [.c (vec (G.next+0) v ys junk),.c (.bool b)]) (.tup [.c (.fz ys),.c (.bool b)]):=by
 refine .tup rfl λj hj=>?_;have hj2:j<2:=hj;have hj3:j=0\/j=1:=O;rcases hj3 with rfl|rfl
 ·exact ja5 (k:=0) rfl ho (yag _)
 ·exact .c (.same _ (.bool _))
theorem zjx(x:Stmt)(hx:x.kind=1)(hidx:idxA (λu:wc=>u.name==x.table) s 0=(k:Int))(hr8:x.rows.length<=8)(hs5:s.length<=5)(db:List Data):
 Pure Tryz.prog 185 [.agg (wi x),.c (.fz (s.map ja)),.c (.fz (db.map wa)),.c (.fn 129 [] [])] (.tup [.c (.fz (x.rows.map λr=>[jdq k x r])),.c (.bool true)]):=by
 refine yas wbb λG=>?_;have c1:=zaz s x.table (yaj hs5 gb);rw[hidx]at c1;have hx1:(x.kind==1)=true:=beq_iff_eq.2 hx;repeat' first|refine X ?_|refine yaC (c1) ?_|exact yaF|refine yaS ?_ ?_<;>intro _
 all_goals first
  |contradiction
  |skip
 refine Go.keep [7,10,11,12,31,32,33] (Go.loops (I:=λm fr V=>∃(i:Nat) (ki:Int) (v:Nat) (junk:List (List Ce)),m=x.rows.length-i/\i<=x.rows.length/\ki=i/\Jk 1 junk/\
  fr=[(7,.c (.fp [.fn 129 [] []])),(10,.c (.fp [.int .i64 (k:Int)])),(11,.c (.fp [.bool (x.policy==3)])),(12,.c (vec (G.next+0) v ((x.rows.take i).map λr=>[jdq k x r]) junk)),(31,.c (.fz (x.rows.map wb))),(32,.c (.int .i64 (x.rows.length:Int))),(33,.c (.int .i64 ki))]/\V=E G [(v,((x.rows.take i).map λr=>[jdq k x r])++junk)]) ?_ _ _ _ ⟨0,_,0,[],rfl,yac _,rfl,Jk.nil,rfl,rfl⟩)
 rintro m fr V ⟨i,ki,v,junk,rfl,hi,hki,hj,rfl,rfl⟩ hrec;by_cases hlt:i<x.rows.length
 ·have hys:∀e∈(x.rows.take i).map λr=>[jdq k x r],e.length=1:=λe he=>by
   obtain⟨a,_,rfl⟩:=List.mem_map.1 he
   rfl
  have hbd:(((x.rows.take i).map λr=>[jdq k x r]).length+1)*8<=140737488355328:=by rw[yae,yat];omega
  have e1:((x.rows.take i).map λr=>[jdq k x r])++[[jdq k x x.rows[i]]]=(x.rows.take (i+1)).map λr=>[jdq k x r]:=by rw[yah hlt,yak];rfl
  repeat' first|refine X ?_|((first|apply yG|apply yH|apply yI);exact rfl;(first|exact yax wb hki hlt))|(apply Go.app1;exact rfl;exact rfl;exact rfl;exact rfl;exact rfl;exact hys;exact hj;exact rfl;exact hbd;intro v' junk' hj')|exact yaF|refine yaS ?_ ?_<;>intro _
  refine Go.keep [7,10,11,12,31,32,33] (hrec _ _ _ O ⟨i+1,_,v',junk',rfl,hlt,jc hki O,hj', ?_, ?_⟩)
  ·rw[<-e1];rfl
  ·rw[<-e1];rfl
 ·rw[yapq O];repeat' first|refine X ?_|exact yaF|refine yaS ?_ ?_<;>intro _
  exact .ret rfl ⟨_,rfl,wh0 (V:=G) λe he c hc=>by
   obtain⟨a,_,rfl⟩:=List.mem_map.1 he;rw[List.mem_singleton.1 hc];exact jjw⟩
theorem jjx(x:Stmt)(hx:¬x.kind=1)(hidx:idxA (λu:wc=>u.name==x.table) s 0=(k:Int))(hs5:s.length<=5)(hw:x.wher.length<=24)(db:List Data)(hk:k<db.length)(hl:db[k].rows.length<=60)(hv:∀r∈db[k].rows,r.vals.length<=34359738368):
 Pure Tryz.prog 185 [.agg (wi x),.c (.fz (s.map ja)),.c (.fz (db.map wa)),.c (.fn 129 [] [])] (.tup [.c (.fz ((jv db[k].rows x.wher).1.map λid=>[wdq s k x id])),.c (.bool (jv db[k].rows x.wher).2)]):=by
 refine yar wbb λG hS hA=>?_;have hxo:∀c∈wi x,Old G.next c:=λc hc=>hA (.agg (wi x)) gx c hc;clear hA hS;have c1:=zaz s x.table (yaj hs5 gb);rw[hidx]at c1;have c2:=NewV.pure (wew db[k].rows x.wher (yaj hl gb) hv (yaj hw gb));have hml:=wdp (l:=db[k].rows) (w:=x.wher);generalize jv db[k].rows x.wher=mf at c2 hml⊢;obtain⟨ids,b⟩:=mf;simp only at c2 hml⊢;have hx1:(x.kind==1)=false:=beq_eq_false_iff_ne.2 hx;repeat' first|refine X ?_|((first|apply yG|apply yH|apply yI);exact rfl;(first|exact yax wa rfl hk))|refine yaC (c1) ?_|refine yaC (c2) ?_|exact yaF|refine yaS ?_ ?_<;>intro _
 all_goals first
  |contradiction
  |skip
 refine Go.keep [4,5,7,10,11,12,16,54,55,56] (Go.loops (I:=λm fr V=>∃(i:Nat) (ki:Int) (v:Nat) (junk:List (List Ce)),m=ids.length-i/\i<=ids.length/\ki=i/\Jk 1 junk/\
  fr=[(4,.c (.fp (wi x))),(5,.c (.fp [.fz (s.map ja)])),(7,.c (.fp [.fn 129 [] []])),(10,.c (.fp [.int .i64 (k:Int)])),(11,.c (.fp [.bool (x.policy==3)])),(12,.c (vec (G.next+0) v ((ids.take i).map λid=>[wdq s k x id]) junk)),(16,.c (.bool b)),(54,.c (.fz (ids.map encI))),(55,.c (.int .i64 (ids.length:Int))),(56,.c (.int .i64 ki))]/\V=E G [(v,((ids.take i).map λid=>[wdq s k x id])++junk)]) ?_ _ _ _ ⟨0,_,0,[],rfl,yac _,rfl,Jk.nil,rfl,rfl⟩)
 rintro m fr V ⟨i,ki,v,junk,rfl,hi,hki,hj,rfl,rfl⟩ hrec;by_cases hlt:i<ids.length
 ·have hys:∀e∈(ids.take i).map λid=>[wdq s k x id],e.length=1:=λe he=>by
   obtain⟨a,_,rfl⟩:=List.mem_map.1 he
   rfl
  have hbd:(((ids.take i).map λid=>[wdq s k x id]).length+1)*8<=140737488355328:=by rw[yae,yat];omega
  have e1:((ids.take i).map λid=>[wdq s k x id])++[[wdq s k x ids[i]]]=(ids.take (i+1)).map λid=>[wdq s k x id]:=by rw[yah hlt,yak];rfl
  repeat' first|refine X ?_|((first|apply yG|apply yH|apply yI);exact rfl;(first|exact yax encI hki hlt))|(apply Go.app1;exact rfl;exact rfl;exact rfl;exact rfl;exact rfl;exact hys;exact hj;exact rfl;exact hbd;intro v' junk' hj')|exact yaF|refine yaS ?_ ?_<;>intro _
  refine Go.keep [4,5,7,10,11,12,16,54,55,56] (hrec _ _ _ O ⟨i+1,_,v',junk',rfl,hlt,jc hki O,hj', ?_, ?_⟩)
  ·rw[<-e1];rfl
  ·rw[<-e1];rfl
 ·rw[yapq O];repeat' first|refine X ?_|exact yaF|refine yaS ?_ ?_<;>intro _
  exact .ret rfl ⟨_,rfl,wh0 (V:=G) λe he c hc=>by
   obtain⟨a,_,rfl⟩:=List.mem_map.1 he;rw[List.mem_singleton.1 hc];exact wjw hxo⟩
def JobG(s:List wc)(c:Ce)(j:List Data->Res):Prop:=∃f cap,c=.fn f [] cap/\(∀now,DbG BI s now->∀(L:ChL) (n:Nat) (xs:List Ce) (V:jb),ju L n s xs now V->Ok Tryz.prog f (([]:List Ce).map .c++[.c (.ptr L.c L.vc 0 0)]++cap.map .c) V (Done L n s (j now) V))/\∀now,DbG BI s now->(j now).2=0->DbG BI s (j now).1
theorem Kept.ofGr{V':jb}(h:Gr V V')(hn:n<=V.next):Kept n V V':=by
 obtain⟨l,rfl,_⟩:=h;exact .ofE hn l
theorem whp(hs:SchG s){now:List Data}(hn:DbG BI s now){c:Ce}{j:List Data->Res}(hj:JobG s c j)(G:jb):Ok Tryz.prog 136 [.c (.fz (s.map ja)),.c (.fz (now.map wa)),.c c] G (NewV G (.tup [.c (.fz ((topR now (j now)).1.map wa)),.c (.int .i64 (topR now (j now)).2)])):=by
 obtain⟨f,cap,rfl,hrun,hkp⟩:=hj;obtain⟨b1,b2,b3⟩:=whn hs hn;refine Ok.newV ((wig s now O (λd hd=>⟨(b3 d hd).2.1,λr hr=>⟨((b3 d hd).2.2 r hr).1,by have:=((b3 d hd).2.2 r hr).2.1;omega⟩⟩) (λd hd=>(b3 d hd).1) f [] cap (j now) (λh0 d hd=>((whn hs (hkp now hn h0)).2.2 d hd).1) G λL xs V hH=>hrun now hn L G.next xs V hH).mono ?_);rintro r V ⟨hK,x,rfl,hh⟩;exact⟨hK,.two hh⟩
theorem zdr(hs:SchG s){db:List Data}(h:DbG BI s db)(G:jb):Ok Tryz.prog 186 [.c (.fz (db.map wa))] G (λr V=>Kept G.next G V/\∃y,r=.c y/\Has V (λa=>G.next<=a/\a<V.next) (.fz (db.map wa)) y):=by
 obtain⟨b1,b2,b3⟩:=whn hs h;refine(jbe db O (λd hd=>⟨(b3 d hd).2.1,λr hr=>⟨((b3 d hd).2.2 r hr).1,by have:=((b3 d hd).2.2 r hr).2.1;omega⟩⟩) G).mono ?_;rintro r V ⟨o,vo,xs,junk,rfl,hK,hD⟩;exact⟨hK,_,rfl,hD.has hK.next λd hd=>(b3 d hd).1⟩
set_option maxHeartbeats 4000000 in
theorem wja(hs:SchG s)(x:Stmt)(db:List Data)(hdb:DbG BI s db)(J:List (Ce×(List Data->Res)))(hJ:∀p∈J,JobG s p.1 p.2)(hJl:J.length<=60)(b:Bool)
 (hj:Pure Tryz.prog 185 [.agg (wi x),.c (.fz (s.map ja)),.c (.fz (db.map wa)),.c (.fn 129 [] [])] (.tup [.c (.fz (J.map λp=>[p.1])),.c (.bool b)])) (G:jb):
 Ok Tryz.prog 82 [.c (.fz (s.map ja)),.c (.fz (db.map wa)),.agg (wi x),.c (.fn 129 [] [])] G (NewV G (insV (if b=true then j4 db x (J.map (·.2)) db 0 else(db,8,0)))):=by
 refine Ok.newV (Ok.run0 mixed we6 gz λhS hA=>?_);clear hS hA
 cases b
 ·rw[if_neg yai];repeat' first|refine X ?_|refine yaC (hj) ?_|exact yaF|refine yaS ?_ ?_<;>intro _
  refine .call _ rfl rfl rfl (zdr hs hdb G) ?_;rintro r9 V1 ⟨hK,y,hr9,hh⟩;rw[hr9];repeat' first|refine X ?_|exact yaF|refine yaS ?_ ?_<;>intro _
  exact .ret rfl ⟨hK,.three hh⟩
 ·rw[if_pos rfl];repeat' first|refine X ?_|refine yaC (hj) ?_|exact yaF|refine yaS ?_ ?_<;>intro _
  refine .call _ rfl rfl rfl (zdr hs hdb G) ?_;rintro r9 V1 ⟨hK1,y1,hr9,hh1⟩;rw[hr9];clear hr9 hj;repeat' first|refine X ?_|exact yaF|refine yaS ?_ ?_<;>intro _
  refine Go.keep [0,1,6,13,14,33,34,35] (Go.loops (I:=λm fr V=>∃(i:Nat) (ki:Int) (now:List Data) (mc:Nat) (km:Int) (y:Ce),m=J.length-i/\i<=J.length/\ki=i/\(DbG BI s now/\mc<=i/\km=mc/\Kept G.next G V/\Has V (λa=>G.next<=a/\a<V.next) (.fz (now.map wa)) y/\j4 db x (J.map (·.2)) db 0=j4 db x ((J.drop i).map (·.2)) now km)/\
   fr=[(0,.c (.fz (s.map ja))),(1,.c (.fz (db.map wa))),(6,.c (.fp (wi x))),(13,.c y),(14,.c (.int .i64 km)),(33,.c (.fz (J.map λp=>[p.1]))),(34,.c (.int .i64 (J.length:Int))),(35,.c (.int .i64 ki))]) ?_ _ _ _ ⟨0,_,db,0,_,y1,rfl,yac _,rfl,⟨hdb,yag _,rfl,hK1,hh1,rfl⟩,rfl⟩)
  clear hh1 hK1;rintro m fr V ⟨i,ki,now,mc,km,y,rfl,hi,hki,⟨hnow,hmc,hkm,hK,hh,hst⟩,rfl⟩ hrec;by_cases hlt:i<J.length
  ·have hw1:IntKind.i64.wrap (km+1)=km+1:=jh O O;have hJi:=hJ _ (yaa hlt);have hkp:(J[i].2 now).2=0->DbG BI s (J[i].2 now).1:=let⟨_,_,_,_,h⟩:=hJi;h now hnow
   have cc:=Lend.new (.same (.own (HasV.c hh).lend (.same .nil))) (whp hs hnow hJi);rw[yab hlt,ybi,j4]at hst;generalize J[i].2 now=q at cc hkp hst;have hn0:G.next<=V.next:=hK.next;repeat' first|refine X ?_|((first|apply yG|apply yH|apply yI);exact rfl;(first|exact yX (enc:=λp:Ce×(List Data->Res)=>[p.1]) rfl rfl hki hlt rfl))|exact yaF|refine yaS ?_ ?_<;>intro _
   refine .call _ rfl rfl rfl cc ?_;rintro r9 V2 hq9;obtain⟨g,hr9,gr,hg⟩:=jdc (.int _ _) hq9;rw[hr9];clear hr9 hq9 cc;have hK2:=hK.trans (.ofGr gr hK.next);have hh2:=(hh.frame λa ha=>gr.lt ha.2).mono (S':=λa=>G.next<=a/\a<V2.next) λa ha=>⟨ha.1,yaw ha.2 gr.next⟩;have hg2:=hg.mono (S':=λa=>G.next<=a/\a<V2.next) λa ha=>⟨yaj hK.next ha.1,ha.2⟩;have hn2:G.next<=V2.next:=hK2.next;clear hg hh gr hK;by_cases hq:q.2=0
   ·rw[if_pos hq,<-hw1]at hst;rw[topR,if_pos hq]at hg2;rw[topR,if_pos hq];repeat' first|refine X ?_|exact yaF|refine yaS ?_ ?_<;>intro _
    all_goals first
     |contradiction
     |exact Go.keep [0,1,6,13,14,33,34,35] (hrec _ _ _ O ⟨i+1,_,q.1,mc+1,_,g,rfl,hlt,jc hki O,⟨hkp hq,O,jc hkm O,hK2,hg2,hst⟩,rfl⟩)
   ·obtain⟨e,he⟩:∃e,q.2=e:=⟨_,rfl⟩;rw[if_neg hq,he]at hst;rw[topR,if_neg hq,he];rw[he]at hq;clear hg2;have c4:=jja x e;by_cases hm:e=-1
    ·rw[if_pos (.inl hm)]at hst;subst hm;repeat' first|refine X ?_|refine yaC (c4) ?_|exact yaF|refine yaS ?_ ?_<;>intro _
     all_goals first
      |contradiction
      |exact Go.keep [0,1,6,13,14,33,34,35] (hrec _ _ _ O ⟨i+1,_,now,mc,_,y,rfl,hlt,jc hki O,⟨hnow,O,hkm,hK2,hh2,hst⟩,rfl⟩)
    ·cases hp:jd7 x e
     ·rw[hp]at c4 hst;rw[if_neg (λh=>by rcases h with h|h;exact hm h;cases h)]at hst;by_cases hp1:x.policy=1/\¬e=5
      ·rw[if_pos hp1]at hst;obtain⟨hp1,h5⟩:=hp1;rw[hst];repeat' first|refine X ?_|refine yaC (c4) ?_|exact yaF|refine yaS ?_ ?_<;>intro _
       all_goals first
        |contradiction
        |exact .ret rfl ⟨hK2,.three hh2⟩
      ·rw[if_neg hp1]at hst;rw[hst];repeat' first|refine X ?_|refine yaC (c4) ?_|exact yaF|refine yaS ?_ ?_<;>intro _
       all_goals first
        |(exfalso;simp_all;done)
        |skip
       all_goals refine .call _ rfl rfl rfl (zdr hs hdb V2) ?_
       all_goals rintro r9 V3 ⟨hK3,y3,hr9,hh3⟩
       all_goals rw[hr9]
       all_goals repeat' first|refine X ?_|exact yaF|refine yaS ?_ ?_<;>intro _
       all_goals exact .ret rfl ⟨hK2.trans (hK3.mono hn2),.three (hh3.mono λa ha=>⟨yaj hn2 ha.1,ha.2⟩)⟩
     ·rw[hp]at c4 hst;rw[if_pos (.inr rfl)]at hst;repeat' first|refine X ?_|refine yaC (c4) ?_|exact yaF|refine yaS ?_ ?_<;>intro _
      all_goals first
       |contradiction
       |exact Go.keep [0,1,6,13,14,33,34,35] (hrec _ _ _ O ⟨i+1,_,now,mc,_,y,rfl,hlt,jc hki O,⟨hnow,O,hkm,hK2,hh2,hst⟩,rfl⟩)
  ·rw[yad O,List.map_nil,j4]at hst;rw[hst];repeat' first|refine X ?_|exact yaF|refine yaS ?_ ?_<;>intro _
   exact .ret rfl ⟨hK,.three hh⟩
def ExF(s:List wc)(db:List Data)(x:Stmt):Ins:=if(dbF s db&&l7F s x)=true then jb4 s (idxA (λu:wc=>u.name==x.table) s 0).toNat x db else([],1,0)
theorem zgc{s:List wc}{db0:List Data}(h0:DbG BI s db0){x:Stmt}:∀{J:List (List Data->Res)} {now:List Data} {m:Int},(∀j∈J,∀now,DbG BI s now->(j now).2=0->DbG BI s (j now).1)->DbG BI s now->DbG BI s (j4 db0 x J now m).1
 |[],_,_,_,h=>h
 |j::r,now,m,hJ,h=>by
  have hr:∀j∈r,∀now,DbG BI s now->(j now).2=0->DbG BI s (j now).1:=λj hj=>hJ j (by simp[hj]);rw[j4];split
  ·rename_i hq;exact zgc h0 hr (hJ j gx now h hq)
  ·split
   ·exact zgc h0 hr h
   ·split
    ·exact h
    ·exact h0
theorem zh1(hs:SchG s){k:Nat}(hk:k<s.length){x:Stmt}(hG:StG s[k] x){db:List Data}(h:DbG BI s db):DbG BI s (jb4 s k x db).1:=by
 rw[jb4];split
 ·refine zgc h (λj hj now hn h0=>?_) h;rw[ze4]at hj;split at hj
  ·obtain⟨r,hr,rfl⟩:=List.mem_map.1 hj;exact jhp hs hk (hG.rows.2 r hr) hn h0
  ·obtain⟨id,hid,rfl⟩:=List.mem_map.1 hj;exact zj3 hs hk hG hn h0
 ·exact h
theorem wjx(hs:SchG s){k:Nat}(hk:k<s.length)(x:Stmt)(hG:StG s[k] x)(hidx:idxA (λu:wc=>u.name==x.table) s 0=(k:Int))(db:List Data)(hdb:DbG BI s db)(G:jb):
 Ok Tryz.prog 82 [.c (.fz (s.map ja)),.c (.fz (db.map wa)),.agg (wi x),.c (.fn 129 [] [])] G (NewV G (insV (jb4 s k x db))):=by
 have hk2:k<db.length:=by rw[hdb.len];exact hk
 have hR:=hdb.rows k hk hk2;by_cases hx:x.kind=1
 ·have hj:=zjx x hx hidx hG.rows.1 hs.few db;have h1:=wja hs x db hdb (x.rows.map λr=>(jdq k x r,insJ s k x r.vals)) (λp hp=>by
   obtain⟨r,hr,rfl⟩:=List.mem_map.1 hp;refine⟨_,_,rfl,λnow hn L n xs V hH=>?_,λnow hn h0=>jhp hs hk (hG.rows.2 r hr) hn h0⟩;exact wjv hs hk x r (hG.rows.2 r hr) now hn xs V hH) (by rw[yae];have:=hG.rows.1;omega) true (by
   have e:((x.rows.map λr=>(jdq k x r,insJ s k x r.vals)).map λp=>[p.1])=x.rows.map λr=>[jdq k x r]:=by rw[List.map_map];rfl
   rw[e];exact hj) G
  have e2:(x.rows.map λr=>(jdq k x r,insJ s k x r.vals)).map (·.2)=x.rows.map λr=>insJ s k x r.vals:=by rw[List.map_map];rfl
  rw[e2,if_pos rfl]at h1;have e3:jb4 s k x db=j4 db x (x.rows.map λr=>insJ s k x r.vals) db 0:=by
   have hw:(jv (jm db k) x.wher).2=true:=by
    rw[hG.ins hx];have key:∀(l:List RowD) (acc:List Int),∃ids,ww [] l acc=some ids:=by
     intro l
     induction l with
     |nil=>exactλacc=>⟨acc,rfl⟩
     |cons r l ih=>
      intro acc;rw[ww];exact ih _
    obtain⟨ids,h⟩:=key (jm db k) [];rw[jv,h]
   rw[jb4,if_pos hw,ze4,if_pos hx]
  rw[e3];exact h1
 ·have hj:=jjx x hx hidx hs.few hG.wher.1 db hk2 hR.len λr hr=>yaj (ze.1 (hR.fit r hr).2).1 gb;have hml:=wdp (l:=db[k].rows) (w:=x.wher);have hl:=hR.len;have h1:=wja hs x db hdb ((jv db[k].rows x.wher).1.map λid=>(wdq s k x id,idJ s k x id)) (λp hp=>by
   obtain⟨id,hid,rfl⟩:=List.mem_map.1 hp;refine⟨_,_,rfl,λnow hn L n xs V hH=>?_,λnow hn h0=>zj3 hs hk hG hn h0⟩;exact zjw hs hk x hG id now hn xs V hH) (by rw[yae];omega) (jv db[k].rows x.wher).2 (by
   have e:(((jv db[k].rows x.wher).1.map λid=>(wdq s k x id,idJ s k x id)).map λp=>[p.1])=(jv db[k].rows x.wher).1.map λid=>[wdq s k x id]:=by rw[List.map_map];rfl
   rw[e];exact hj) G
  have e2:((jv db[k].rows x.wher).1.map λid=>(wdq s k x id,idJ s k x id)).map (·.2)=(jv db[k].rows x.wher).1.map λid=>idJ s k x id:=by rw[List.map_map];rfl
  rw[e2]at h1;have e3:jb4 s k x db=if(jv db[k].rows x.wher).2=true then j4 db x ((jv db[k].rows x.wher).1.map λid=>idJ s k x id) db 0 else(db,8,0):=by
   rw[jb4,ze4,if_neg hx,je hk2]
  rw[e3];exact h1
theorem jea(s:List wc)(db:List Data)(x:Stmt)(hx:s.length<=34359738368)(hb:∀t∈s,j6 34359738368 t)(hd:db.length<=34359738368)(hdb:∀d∈db,wcc 34359738368 d)(hq:wd6 34359738368 x)(G:jb):
 Ok Tryz.prog 45 [.c (.fz (s.map ja)),.c (.fz (db.map wa)),.agg (wi x)] G (NewV G (.tup [.c (.fz ((ExF s db x).1.map wa)),.c (.int .i64 (ExF s db x).2.1),.c (.int .i64 (ExF s db x).2.2)])):=by
 refine Ok.newV (Ok.run0 mixed ze6 gz λhS hA=>?_);clear hS hA;have c1:=jhi s db hx hb hd hdb;have c2:=wi8 s x hx hb hq;rw[ExF]
 cases h1:dbF s db
 ·rw[h1]at c1;rw[ybc,if_neg yai];repeat' first|refine X ?_|refine yaC (c1) ?_|refine yaC (c2) ?_|exact yaF|refine yaS ?_ ?_<;>intro _
  exact .ret rfl ⟨.refl,.three .nil⟩
 ·rw[h1]at c1;have hsc:=(jbd h1).1;rw[jih,hsc,yaxq]at c2;rw[yaxq]
  cases h2:l7F s x
  ·rw[h2]at c2;rw[if_neg yai];repeat' first|refine X ?_|refine yaC (c1) ?_|refine yaC (c2) ?_|exact yaF|refine yaS ?_ ?_<;>intro _
   exact .ret rfl ⟨.refl,.three .nil⟩
  ·rw[h2]at c2;rw[if_pos rfl];have hs:=schG hsc hb;obtain⟨k,hk,hidx,hG⟩:=jhz hq h2;rw[hidx,ybf];have c3:=wjx hs hk x hG hidx db (dbB h1) G;rw[insV]at c3;generalize jb4 s k x db=q at c3⊢;repeat' first|refine X ?_|refine yaC (c1) ?_|refine yaC (c2) ?_|exact yaF|refine yaS ?_ ?_<;>intro _
   refine .call _ rfl rfl rfl c3 ?_;rintro r9 V2 hq9;obtain⟨g,hr9,gr,hg⟩:=jiy (.int _ _) (.int _ _) hq9;rw[hr9];repeat' first|refine X ?_|exact yaF|refine yaS ?_ ?_<;>intro _
   exact .ret rfl ⟨.ofGr gr (yag _),.three hg⟩
theorem jh1(s:List wc)(db:List Data)(x:Stmt)(hx:s.length<=34359738368)(hb:∀t∈s,j6 34359738368 t)(hd:db.length<=34359738368)(hdb:∀d∈db,wcc 34359738368 d)(hq:wd6 34359738368 x):
 Pure Tryz.prog 46 [.c (.fz (s.map ja)),.c (.fz (db.map wa)),.agg (wi x)] (.tup [.c (.fz ((ExF s db x).1.map wa)),.c (.int .i64 (ExF s db x).2.1),.c (.int .i64 (ExF s db x).2.2)]):=by
 refine yaq [5] jg6 λG=>?_;have c1:=whw s db hx hb hd hdb;rw[ExF]
 cases h1:dbF s db
 ·rw[h1]at c1;rw[ybc,if_neg yai];repeat' first|refine X ?_|refine yaC (c1) ?_|exact yaF|refine yaS ?_ ?_<;>intro _
  exact .ret rfl .nil3
 ·rw[h1]at c1;have hsc:=(jbd h1).1;have c2:=zi9 s x hsc hx hb hq;rw[yaxq]
  cases h2:l7F s x
  ·rw[h2]at c2;rw[if_neg yai];repeat' first|refine X ?_|refine yaC (c1) ?_|refine yaC (c2) ?_|exact yaF|refine yaS ?_ ?_<;>intro _
   exact .ret rfl .nil3
  ·rw[h2]at c2;rw[if_pos rfl];have hs:=schG hsc hb;obtain⟨k,hk,hidx,hG⟩:=jhz hq h2;rw[hidx,ybf];have hdg:=dbB h1;have c3:=zja hs hk x hG hidx db hdg;have hkp:=zh1 hs hk hG hdg;rw[insV]at c3;generalize jb4 s k x db=q at c3 hkp⊢;obtain⟨b1,b2,b3⟩:=whn hs hkp;have c4:=jez q.1 O λd hd=>⟨(b3 d hd).2.1,λr hr=>by have:=((b3 d hd).2.2 r hr).2.1;omega⟩;repeat' first|refine X ?_|refine yaC (c1) ?_|refine yaC (c2) ?_|refine yaC (c3) ?_|refine yaC (c4) ?_|exact yaF|refine yaS ?_ ?_<;>intro _
   exact .ret rfl (Fin.same rfl (wal _ _ _ _))
theorem jg1(s:List wc)(db:List Data)(x:Stmt)(hx:s.length<=34359738368)(hb:∀t∈s,j6 34359738368 t)(hd:db.length<=34359738368)(hdb:∀d∈db,wcc 34359738368 d)(hq:wd6 34359738368 x):
 (ExF s db x).1.length<=34359738368/\(∀y∈(ExF s db x).1,wcc 34359738368 y)/\1+cntL zf7 (ExF s db x).1<=34359738368:=by
 rw[ExF];split
 ·rename_i h0;rw[yarq]at h0;obtain⟨h1,h2⟩:=h0;have hs:=schG (jbd h1).1 hb;obtain⟨k,hk,hidx,hG⟩:=jhz hq h2;rw[hidx,ybf];exact jkf hs (zh1 hs hk hG (dbB h1))
 ·exact⟨yac _,λx hx=>(by cases hx),gb⟩
def zjy(l:List RowD)(w:List Tok):List RowD:=l.filter λr=>decide (isM w r=1)
theorem jfq{w:List Tok}:∀{l:List RowD} {acc ids:List Int},ww w l acc=some ids->ids=acc++(zjy l w).map RowD.id
 |[],acc,ids,h=>by injection h with h;subst h;simp[zjy]
 |r::l,acc,ids,h=>by
  rw[ww]at h;split at h
  ·cases h
  ·rw[jfq h,zjy,zjy,ybu];split
   ·rename_i h1;simp[h1]
   ·rename_i h1;simp[h1]
theorem zjb(h:Rise l){a b:RowD}(ha:a∈l)(hb:b∈l)(he:a.id=b.id):a=b:=by
 induction l with
 |nil=>simp at ha
 |cons x r ih=>
  obtain⟨h1,h2⟩:=List.pairwise_cons.1 h;rcases List.mem_cons.1 ha with e1|ha2<;>rcases List.mem_cons.1 hb with e2|hb2
  ·rw[e1,e2]
  ·have:=h1 b hb2;rw[<-e1]at this;omega
  ·have:=h1 a ha2;rw[<-e2]at this;omega
  ·exact ih h2 ha2 hb2
theorem jii(h:(jv l w).2=true)(hr:Rise l){r:RowD}(hm:r∈l):((jv l w).1.any λa=>r.id==a)=decide (isM w r=1):=by
 rw[jv]at h⊢;split at h
 ·rename_i ids e;rw[jfq e,ybs];rw[Bool.eq_iff_iff,List.any_eq_true,decide_eq_true_iff];constructor
  ·rintro⟨a,ha,he⟩;obtain⟨q,hq,rfl⟩:=List.mem_map.1 ha;obtain⟨h1,h2⟩:=List.mem_filter.1 hq;rw[beq_iff_eq]at he;rw[zjb hr hm h1 he];exact of_decide_eq_true h2
  ·intro h1;exact⟨r.id,List.mem_map.2 ⟨r,List.mem_filter.2 ⟨hm,decide_eq_true h1⟩,rfl⟩,beq_self_eq_true _⟩
 ·cases h
def jjb(k:Nat)(id:Int):Nat->Int->Prop:=λm a=>BI m a/\(m=k->a≠id)
section
variable {s:List wc}{db now:List Data}{k:Nat}{id:Int}{x:Stmt}
theorem wjb(h:DbG BI s db)(hk:k<s.length)(id:Int):DbG (jjb k id) s (db.set k ⟨jx (jm db k) id⟩):=by
 refine⟨by rw[yaqq];exact h.len,λi h1 h2=>?_⟩;rw[List.getElem_set];split
 ·rename_i e;subst e;have hR:=(h.at hk).drop id;exact⟨hR.len,λr hr=>⟨hR.ids r hr,λ_ e=>by have:=(List.mem_filter.1 hr).2;simp[e]at this⟩,hR.rise,hR.fit⟩
 ·rename_i hne;have hR:=h.rows i h1 (by rw[yaqq]at h2;exact h2);exact⟨hR.len,λr hr=>⟨hR.ids r hr,λe=>absurd e.symm hne⟩,hR.rise,hR.fit⟩
theorem zjc(h:DbG BI s db)(hk:k<s.length)(hb:jac (jm db k) id=none):DbG (jjb k id) s db:=by
 refine⟨h.len,λi h1 h2=>?_⟩;have hR:=h.rows i h1 h2;refine⟨hR.len,λr hr=>⟨hR.ids r hr,λe e2=>?_⟩,hR.rise,hR.fit⟩;subst e;rw[je h2,jac,List.find?_eq_none]at hb;exact hb r hr (by simp[e2])
theorem zh2{I:Nat->Int->Prop}(hs:SchG s)(hk:k<s.length)(hx:x.kind=3)(h:DbG I s now)(h0:(idJ s k x id now).2=0):DbG I s (idJ s k x id now).1:=by
 revert h0;rw[idJ]
 cases hb:jac (jm now k) id with
 |none=>exactλh=>by cases h
 |some r=>
  show(rowJ s k x r now).2=0->DbG I s (rowJ s k x r now).1;rw[rowJ,if_pos hx];exactλh0=>wah hs 13 _ _ h hk h0
theorem jjy(hs:SchG s)(hk:k<s.length)(hx:x.kind=3)(h:DbG BI s now)(h0:(idJ s k x id now).2=0):DbG (jjb k id) s (idJ s k x id now).1:=by
 revert h0;rw[idJ]
 cases hb:jac (jm now k) id with
 |none=>exactλh=>by cases h
 |some r=>
  show(rowJ s k x r now).2=0->DbG (jjb k id) s (rowJ s k x r now).1;have e:=(zac hb).2;rw[rowJ,if_pos hx,e,chgF,hb];exactλh0=>zap (wah hs 12) (λv hv=>by cases hv) (wjb h hk id) h0
theorem wjy(hx:x.kind=3)(h0:(idJ s k x id now).2=-1):jac (jm now k) id=none:=by
 rw[idJ]at h0
 cases hb:jac (jm now k) id with
 |none=>rfl
 |some r=>
  rw[hb]at h0;have h0:(rowJ s k x r now).2=-1:=h0;rw[rowJ,if_pos hx]at h0;have:=jck (s:=s) 13 (.del k r.id) now;omega
theorem wbe{I:Nat->Int->Prop}(hs:SchG s)(hk:k<s.length)(hx:x.kind=3)(hp:x.policy=0){db0:List Data}:∀{ids:List Int} {now:List Data} {m:Int},DbG I s now->(j4 db0 x (ids.map λid=>idJ s k x id) now m).2.1=0->DbG I s (j4 db0 x (ids.map λid=>idJ s k x id) now m).1
 |[],_,_,h,_=>h
 |id::l,now,m,h,h0=>by
  rw[ybi,j4]at h0⊢;by_cases hq:(idJ s k x id now).2=0
  ·rw[if_pos hq]at h0⊢;exact wbe hs hk hx hp (zh2 hs hk hx h hq) h0
  ·rw[if_neg hq]at h0⊢;by_cases hq2:(idJ s k x id now).2=-1\/jd7 x (idJ s k x id now).2=true
   ·rw[if_pos hq2]at h0⊢;exact wbe hs hk hx hp h h0
   ·rw[if_neg hq2,if_neg (λe=>by omega)]at h0;exact absurd h0 hq
theorem jdr(hs:SchG s)(hk:k<s.length)(hx:x.kind=3)(hp:x.policy=0){db0:List Data}{i:Int}:∀{ids:List Int} {now:List Data} {m:Int},DbG BI s now->(j4 db0 x (ids.map λid=>idJ s k x id) now m).2.1=0->i∈ids->DbG (jjb k i) s (j4 db0 x (ids.map λid=>idJ s k x id) now m).1
 |[],_,_,_,_,hi=>by cases hi
 |id::l,now,m,h,h0,hi=>by
  rw[ybi,j4]at h0⊢;by_cases hq:(idJ s k x id now).2=0
  ·rw[if_pos hq]at h0⊢;rcases List.mem_cons.1 hi with rfl|hi
   ·exact wbe hs hk hx hp (jjy hs hk hx h hq) h0
   ·exact jdr hs hk hx hp (zh2 hs hk hx h hq) h0 hi
  ·rw[if_neg hq]at h0⊢;by_cases hq2:(idJ s k x id now).2=-1\/jd7 x (idJ s k x id now).2=true
   ·rw[if_pos hq2]at h0⊢;rcases List.mem_cons.1 hi with rfl|hi
    ·rcases hq2 with hq2|hq2
     ·exact wbe hs hk hx hp (zjc h hk (wjy hx hq2)) h0
     ·rw[jd7,hp]at hq2
      cases hq2
    ·exact jdr hs hk hx hp h h0 hi
   ·rw[if_neg hq2,if_neg (λe=>by omega)]at h0;exact absurd h0 hq
end
theorem jjc(hp:s.Pairwise λa b=>a.name≠b.name){i j:Nat}(hi:i<s.length)(hj:j<s.length)(e:s[i].name=s[j].name):i=j:=by
 rcases Nat.lt_trichotomy i j with h|h|h
 ·exact absurd e (List.pairwise_iff_getElem.1 hp i j hi hj h)
 ·exact h
 ·exact absurd e.symm (List.pairwise_iff_getElem.1 hp j i hj hi h)
theorem wg1(hb:∀t∈s,j6 34359738368 t){db:List Data}{n:Int}{w:List Tok}(hM:(ja3 s db n w).2=true):
 ∃k:Nat,∃(h1:k<s.length) (h2:k<db.length),n=k/\db[k].rows.length<=60/\s[k].name.length<=34359738368/\(∀r∈db[k].rows,((ja3 s db n w).1.any λa=>r.id==a)=decide (isM w r=1))/\
  ((ExF s db ⟨3,s[k].name,[],w,[],0⟩).2.1=0->∃h3:k<(ExF s db ⟨3,s[k].name,[],w,[],0⟩).1.length,(ExF s db ⟨3,s[k].name,[],w,[],0⟩).1[k].rows.length<=60/\∀id∈(ja3 s db n w).1,∀r∈(ExF s db ⟨3,s[k].name,[],w,[],0⟩).1[k].rows,r.id≠id):=by
 by_cases hok:jdn s db n w=true
 ·rw[ja3,if_pos hok]at hM;rw[ja3,if_pos hok];rw[jdn,yarq,yarq]at hok;obtain⟨hdb,hin,hwf⟩:=hok;obtain⟨hn0,hn1⟩:=jcz hin;obtain⟨hsf,hrest⟩:=Bool.and_eq_true_iff.1 hdb;have hG:=dbB hdb;have hs:=schG hsf hb;have hk:n.toNat<s.length:=O;have hk2:n.toNat<db.length:=by rw[hG.len];exact hk
  have hrows:wcr db n=db[n.toNat].rows:=by rw[wcr,yaf hk2]
  have hR:=hG.rows _ hk hk2;rw[hrows]at hM⊢;refine⟨n.toNat,hk,hk2,O,hR.len,(hb _ (yaa hk)).1,λr hr=>jii hM hR.rise hr, ?_⟩;generalize hxe:(⟨3,s[n.toNat].name,[],w,[],0⟩:Stmt)=x;have hx3:x.kind=3:=by rw[<-hxe]
  have hxp:x.policy=0:=by rw[<-hxe]
  have hxw:x.wher=w:=by rw[<-hxe]
  have hxt:x.table=s[n.toNat].name:=by rw[<-hxe]
  have hidx:idxA (λu:wc=>u.name==x.table) s 0=(n.toNat:Int):=by
   rcases wcj (λu:wc=>u.name==x.table) s 0 with⟨_,h2⟩|⟨j,hj,h1,h2⟩
   ·rw[List.find?_eq_none]at h2;exact absurd (h2 _ (List.getElem_mem hk)) (by simp[hxt])
   ·have h3:=List.find?_some h2;rw[hxt,beq_iff_eq]at h3;have hj2:j=n.toNat:=jjc (zcf (wbx.1 hsf).2.1).2 hj hk h3;rw[h1,hj2];omega
  rw[ExF];split
  ·rw[hidx,ybf,jb4,je hk2,hxw,hM,if_pos rfl,ze4,if_neg O,je hk2,hxw];intro h0;have hE:=wbe hs hk hx3 hxp hG h0;refine⟨by rw[hE.len];exact hk,(hE.rows _ hk _).len,λid hid r hr e=>?_⟩;exact(((jdr hs hk hx3 hxp hG h0 hid).rows _ hk (by rw[hE.len];exact hk)).ids r hr).2 rfl e
  ·intro h
   cases h
 ·rw[ja3,if_neg hok]at hM
  cases hM
end Go.Proofs.YtedaadaaibofaaaGreat.Am
namespace Go.Proofs.YtedaadaaibofaaaGreat.Am
open Go.RowKit Go.ChangeShapes Go.WideShapes

section
variable {H:Type}{enc:TypeId×Value->H}{W:World}
theorem wa6.isoG{P:Program}{t:TypeId}{α β:Type}{e:β->List Ce}{good:β->Prop}(h:wa6 enc P W t e good)(g:β->α){e':α->List Ce}{good':α->Prop}(he:∀b,good b->e' (g b)=e b)(hg:∀b,good b->good' (g b)):wa6 enc P W t e' good':=by
 constructor;intro fuel cs x h1 h2;obtain⟨a,h3,hl,h4⟩:=h.op fuel cs x h1 h2;refine⟨g a,hg a h3,by rw[he a h3];exact hl,λi hi=>?_⟩;simp only[he a h3];exact h4 i (by rw[he a h3]at hi;exact hi)
theorem wks:wa6 enc Tryz.prog W 5 encB (λ_=>True):=
 (wa6.int Tryz.underlying5).isoG (λn=>UInt8.ofNat n.toNat) (λn hn=>by
   have h1:IntKind.u8.min=0:=gb;have h2:IntKind.u8.max=255:=gb;simp only[Lit.wf,h1,h2,Bool.and_eq_true,decide_eq_true_eq]at hn;have h3:(UInt8.ofNat n.toNat).toNat=n.toNat:=UInt8.toNat_ofNat_of_lt' (by show n.toNat<256;omega);simp only[encB,h3,List.cons.injEq,Ce.int.injEq,true_and,and_true];omega) λ_ _=>trivial
theorem wjc:wa6 enc Tryz.prog W 72 (λl:List UInt8=>[.fz (l.map encB)]) (λl=>l.length<=140737488351232):=
 (wa6.slice (s:=1) Tryz.underlying72 wks (by kernel_rfl) gb (λ_=>rfl)).iso id (λ_=>rfl) λl h=>yaj (Nat.le_mul_of_pos_right _ (of_decide_eq_true (by kernel_rfl))) h.1
end
end Go.Proofs.YtedaadaaibofaaaGreat.Am
namespace Go.Proofs.YtedaadaaibofaaaGreat.Am
def polS(x:Stmt)(p:Int):Stmt:=⟨x.kind,x.table,x.rows,x.wher,x.sets,p⟩
section
variable {s:List wc}{db db0 now:List Data}{k:Nat}{x:Stmt}
theorem jgc:∀{J:List (List Data->Res)} {now:List Data} {m:Int},(j4 db0 (polS x 0) J now m).2.1=0->j4 db0 (polS x 2) J now m=j4 db0 (polS x 0) J now m
 |[],_,_,_=>rfl
 |j::r,now,m,h=>by
  rw[j4]at h⊢;rw[j4];by_cases hq:(j now).2=0
  ·rw[if_pos hq]at h⊢;rw[if_pos hq];exact jgc h
  ·rw[if_neg hq]at h⊢;rw[if_neg hq];by_cases h1:(j now).2=-1
   ·rw[if_pos (.inl h1)]at h⊢;rw[if_pos (.inl h1)];exact jgc h
   ·have hn:¬((j now).2=-1\/jd7 (polS x 0) (j now).2=true):=by
     rintro(e|e)
     ·exact h1 e
     ·cases e
    have hn2:¬((polS x 0).policy=1/\¬(j now).2=5):=λe=>by cases e.1
    rw[if_neg hn,if_neg hn2]at h;exact absurd h hq
theorem wgc:∀{J:List (List Data->Res)} {now:List Data} {m:Int},(∀j∈J,∀now,-1<=(j now).2)->(j4 db0 (polS x 2) J now m).2.1=0\/(j4 db0 (polS x 2) J now m).2.1=1\/5<=(j4 db0 (polS x 2) J now m).2.1
 |[],_,_,_=>.inl rfl
 |j::r,now,m,hJ=>by
  have hr:∀j∈r,∀now,-1<=(j now).2:=λj hj=>hJ j (by simp[hj]);rw[j4];split
  ·exact wgc hr
  ·rename_i hq;split
   ·exact wgc hr
   ·rename_i h1;rw[if_neg λe=>by cases e.1];have h0:=hJ j gx now;have h2:¬isIn (j now).2 2 4=true:=λe=>h1 (.inr e);have h3:¬(j now).2=-1:=λe=>h1 (.inl e);simp only[isIn,Bool.and_eq_true,decide_eq_true_eq]at h2;show(j now).2=0\/(j now).2=1\/5<=(j now).2;omega
theorem zkh(p:Int)(hp:isIn p 0 4=true):l7F s (polS x p)=l7F s (polS x 0):=by
 rw[l7F,l7F]
 show(match whh s x.table with
  |none=>false
  |some u=>isIn p 0 4&&(jff (polS x p)&&(decide ((x.rows.length:Int)<=8)&&wcf u (polS x p))))=_
 rw[hp]
 rfl
theorem zjd:ze4 s k (polS x 2) db=ze4 s k (polS x 0) db:=rfl
end
theorem jkh{s:List wc}{k:Nat}{x:Stmt}{id:Int}{now:List Data}:-1<=(idJ s k x id now).2:=by
 rw[idJ]
 cases jac (jm now k) id with
 |none=>exact ybe _
 |some r=>
  have:=zh0 (s:=s) (k:=k) (x:=x) (r:=r) (db:=now);show -1<=(rowJ s k x r now).2;omega
theorem zhq{s:List wc}{db:List Data}{x:Stmt}(h1:(ExF s db (polS x 2)).2.1≠1):
 ((ExF s db (polS x 0)).2.1=0->ExF s db (polS x 2)=ExF s db (polS x 0))/\(¬(ExF s db (polS x 0)).2.1=0->(ExF s db (polS x 2)).2.1=0\/5<=(ExF s db (polS x 2)).2.1):=by
 have hl:=zkh (s:=s) (x:=x) 2 rfl;have e2:ExF s db (polS x 2)=if(dbF s db&&l7F s (polS x 0))=true then jb4 s (idxA (λu:wc=>u.name==x.table) s 0).toNat (polS x 2) db else([],1,0):=by rw[ExF,hl];rfl
 have e0:ExF s db (polS x 0)=if(dbF s db&&l7F s (polS x 0))=true then jb4 s (idxA (λu:wc=>u.name==x.table) s 0).toNat (polS x 0) db else([],1,0):=rfl
 rw[e2]at h1⊢;rw[e0];clear e2 e0 hl;generalize (idxA (λu:wc=>u.name==x.table) s 0).toNat=k at h1⊢;by_cases hc:(dbF s db&&l7F s (polS x 0))=true
 ·rw[if_pos hc]at h1⊢;rw[if_pos hc];rw[jb4]at h1⊢;rw[jb4];have em:(jv (jm db k) (polS x 2).wher).2=(jv (jm db k) (polS x 0).wher).2:=rfl;by_cases hm:(jv (jm db k) (polS x 0).wher).2=true
  ·rw[if_pos (em.trans hm)]at h1⊢;rw[if_pos hm];rw[zjd]at h1⊢;refine⟨λh=>jgc h,λ_=>?_⟩;have hcod:∀j∈ze4 s k (polS x 0) db,∀now,-1<=(j now).2:=λj hj now=>by
    rw[ze4]at hj;split at hj
    ·obtain⟨r,_,rfl⟩:=List.mem_map.1 hj;have:=wgb (s:=s) (k:=k) (x:=polS x 0) (vals:=r.vals) (db:=now);omega
    ·obtain⟨id,_,rfl⟩:=List.mem_map.1 hj;exact jkh
   rcases wgc (db0:=db) (x:=x) (now:=db) (m:=0) hcod with h|h|h
   ·exact .inl h
   ·exact absurd h h1
   ·exact .inr h
  ·rw[if_neg (λe=>hm (em.symm.trans e))]at h1⊢;rw[if_neg hm];exact⟨λh=>by simp at h,λ_=>.inr (by show(5:Int)<=8;decide)⟩
 ·rw[if_neg hc]at h1;exact absurd rfl h1
theorem wii{fr:Fr}{G:jb}{l:List (Nat×List (List Ce))}{s bytes:Nat}{x y:Opd}{zs:List (List Ce)}(hx:x.ev fr=some (.c .nils))(hy:y.ev fr=some (.c (.fz zs)))(hzs:∀e∈zs,e.length=s)(hb:zs.length*bytes<=140737488355328):
 aop (.app s bytes x y) fr (E G l)=some (.c (vec (G.next+l.length) 0 zs []),E G (l++[(0,zs++[])])):=by
 have h:appA (E G l) s bytes .nils zs=some (.sl (E G l).next 0 0 zs.length zs.length,(E G l).new (0,zs)):=by
  unfold appA;rw[if_pos hzs];exact if_pos hb
 simp only[aop,hx,hy,jb.els,Option.bind_some,h,Option.map_some,wim,jaf,vec,List.append_nil,List.length_nil,Nat.add_zero]
theorem jjd{t:Tok}(h:bTok 12 t):bTok 34359738368 t:=yaj h gb
def wdr:AFn:=⟨95,[.m 4 true 6],(.seq (.region [oP 4 (.alloc [.int .i64 0,.str [],.nils,.nils,.nils,.int .i64 0])]) (.seq (.region [oM 11 0,oM 12 1,oP 13 (.len false (.t 12)),oC 14 229 [(.t 11),(.t 13)],oM 5 14]) (.seq (.region [oM 15 1,oM 16 5,oP 17 (.iaddr 6 (.t 15) (.t 16)),oP 18 (.load true 6 (.t 17)),oP 6 (.alloc [.str [],.nils,.nils,.nils,.nils,.nils]),⟨none,.op (.store 6 (.t 6) (.t 18)),none⟩]) (.seq (.draw [[oM 19 0,oC 20 229 [(.t 19),(kI 3)],oP 21 (.bin .add (kI 1) (.t 20)),oP 22 (.faddr 0 (.t 6)),oP 23 (.load false 1 (.t 22)),oM 24 0,oC 25 229 [(.t 24),(kI 5)],oP 26 (.build [.int .i64 0,.str [],.nils,.nils,.nils,.int .i64 0] [(0,1,(.t 21)),(1,1,(.t 23)),(5,1,(.t 25))]),oP 7 (.alloc [.int .i64 0,.str [],.nils,.nils,.nils,.int .i64 0])],[⟨none,.op (.store 6 (.t 7) (.t 26)),none⟩]]) (.seq (.seq (.region [oP 27 (.faddr 0 (.t 7)),oP 28 (.load false 1 (.t 27))]) (.block 0 (.seq (.region [oP 36 (.bin .eql (.t 28) (kI 1)),oM 35 36]) (.cond (.t 35) (.seq (.region [oM 37 0,oC 38 229 [(.t 37),(kI 3)],oP 39 (.bin .add (kI 1) (.t 38)),oM 8 39]) (.block 1 (.loop (.seq (.seq (.region [oM 40 8,oP 41 (.bin .gtr (.t 40) (kI 0))]) (.cond (.t 41) .skip (.exit 1))) (.seq (.block 2 (.draw [[oP 44 (.faddr 2 (.t 7)),oP 45 (.load false 1 (.t 44)),oM 46 0,oP 47 (.load true 6 (.t 6)),oC 48 231 [(.t 46),(.t 47)],oP 49 (.build [.int .i64 0,.nils] [(1,1,(.t 48))]),oP 50 (.mksl true 2 1 [.int .i64 0,.nils] [(0,(.t 49))])],[oP 51 (.app 2 32 (.t 45) (.t 50))],[oP 52 (.faddr 2 (.t 7))],[⟨none,.op (.store 1 (.t 52) (.t 51)),none⟩]])) (.region [oM 42 8,oP 43 (.bin .sub (.t 42) (kI 1)),oM 8 43])))))) (.seq (.region [oP 54 (.bin .eql (.t 28) (kI 2)),oM 53 54]) (.cond (.t 53) (.seq (.region [oM 55 0,oP 56 (.faddr 1 (.t 6)),oP 57 (.load false 1 (.t 56)),oP 58 (.len false (.t 57)),oC 59 229 [(.t 55),(.t 58)],oM 9 59]) (.seq (.region [oM 60 0,oC 61 229 [(.t 60),(kI 5)],oC 62 224 [(.t 61)],oC 63 227 [(.t 62)],oP 64 (.mksl true 5 1 [.int .i64 0,.int .i64 0,.int .i64 0,.int .i64 0,.str []] [(0,(.t 63))]),oM 10 64]) (.seq (.seq (.region [oM 65 0,oC 66 225 [(.t 65),(kI 2)]]) (.cond (.t 66) (.region [oM 67 9,oC 68 226 [(.t 67)],oC 69 224 [(kI 1)],oC 70 227 [(.t 69)],oP 71 (.build [.int .i64 0,.int .i64 0,.int .i64 0,.int .i64 0,.str []] [(0,1,(kI 9))]),oP 72 (.mksl true 5 3 [.int .i64 0,.int .i64 0,.int .i64 0,.int .i64 0,.str []] [(0,(.t 68)),(1,(.t 70)),(2,(.t 71))]),oM 10 72]) .skip)) (.seq (.region [oM 73 9,oM 74 10,oP 75 (.build [.int .i64 0,.nils] [(0,1,(.t 73)),(1,1,(.t 74))]),oP 76 (.mksl true 2 1 [.int .i64 0,.nils] [(0,(.t 75))]),oP 77 (.faddr 4 (.t 7)),⟨none,.op (.store 1 (.t 77) (.t 76)),none⟩]) (.region [oM 78 0,oP 79 (.faddr 1 (.t 6)),oP 80 (.load false 1 (.t 79)),oP 81 (.len false (.t 80)),oC 82 141 [(.t 78),(.t 81)],oP 83 (.faddr 3 (.t 7)),⟨none,.op (.store 1 (.t 83) (.t 82)),none⟩]))))) (.region [oM 29 0,oP 30 (.faddr 1 (.t 6)),oP 31 (.load false 1 (.t 30)),oP 32 (.len false (.t 31)),oC 33 141 [(.t 29),(.t 32)],oP 34 (.faddr 3 (.t 7)),⟨none,.op (.store 1 (.t 34) (.t 33)),none⟩]))))))) (.seq (.seq (.region [oM 84 0,oC 85 229 [(.t 84),(kI 40)]]) (.block 3 (.seq (.region [oP 87 (.bin .eql (.t 85) (kI 38)),oM 86 87]) (.cond (.t 86) (.region [oP 88 (.faddr 1 (.t 7)),⟨none,.op (.store 1 (.t 88) (.k (.str [120]))),none⟩]) (.seq (.region [oP 90 (.bin .eql (.t 85) (kI 39)),oM 89 90]) (.cond (.t 89) (.region [oM 91 0,oC 92 230 [(.t 91),(kI 1),(kI 3)],oP 93 (.faddr 0 (.t 7)),⟨none,.op (.store 1 (.t 93) (.t 92)),none⟩]) .skip)))))) (.seq (.region [oP 94 (.load true 6 (.t 7)),⟨none,.op (.store 6 (.t 4) (.t 94)),none⟩]) .ret)))))))⟩
theorem zco:jd Tryz.prog [50,64,72,76] 128=some wdr:=yak9
end Go.Proofs.YtedaadaaibofaaaGreat.Am
