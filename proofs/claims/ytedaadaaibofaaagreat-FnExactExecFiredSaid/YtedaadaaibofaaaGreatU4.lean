/- Joined texts: S4, P1, F9, E1, E3, E2, Y1, E4, Y2, K3, Y3, Y4, S5, S6, S7, S9, K4, D1, M0, M1, M3, M2, N0, D2, G1, G2, G3, G4, G5, G6, J1, F10, J2, J3, H0, Y5, Y6, A1, A3, A9, A2. -/
import Derived.Test.YtedaadaaibofaaaGreatU1
import Derived.Test.YtedaadaaibofaaaGreatU2
import Derived.Test.YtedaadaaibofaaaGreatU3
set_option linter.unusedVariables false
set_option linter.unusedSimpArgs false
namespace Go.Proofs.YtedaadaaibofaaaGreat.Am
theorem zmw(x0 x2 x3 x4 x5:Ce)(l:List Col)(s:List UInt8)(hx:l.length<=34359738368):Pure Tryz.prog 315 [.agg [x0,.fz (l.map ji),x2,x3,x4,x5],.c (.str s)] (.c (.int .i64 (idxA (λc=>c.name==s) l 0))):=by
 refine yaq [2] wi4 λG=>?_;repeat' first|refine X ?_|exact yaF|refine Y ?_ ?_<;>intro _
 refine Go.keep [1,2,5] (Go.loops (I:=λm fr V=>∃i:Nat,∃k:Int,m=l.length-i/\i<=l.length/\k=i/\idxA (λc=>c.name==s) l 0=idxA (λc=>c.name==s) (l.drop i) k/\
  fr=[(1,.c (.str s)),(2,.c (.fp [x0,.fz (l.map ji),x2,x3,x4,x5])),(5,.c (.int .i64 k))]/\V=E G []) ?_ _ _ _ ⟨0,_,rfl,yad _,rfl,rfl,rfl,rfl⟩)
 rintro m fr V ⟨i,k,rfl,hi,hn,hsl,rfl,rfl⟩ hrec;by_cases hlt:i<l.length
 ·repeat' first|refine X ?_|((first|apply yG|apply yH|apply yI);exact rfl;(first|exact yax ji hn hlt))|exact yaF|refine Y ?_ ?_<;>intro _
  ·refine .ret rfl (.int ?_);rw[hsl,yab hlt,idxA,if_pos (by assumption)]
  ·rename_i h;refine Go.keep [1,2,5] (hrec _ _ _ O ⟨i+1,_,rfl,hlt,wb hn O, ?_,rfl,rfl⟩);rw[hsl,List.drop_eq_getElem_cons hlt,idxA,if_neg (by rw[h];simp),jg O O]
 ·repeat' first|refine X ?_|exact yaF|refine Y ?_ ?_<;>intro _
  refine .ret rfl (.int ?_);rw[hsl,yac O]
  rfl
theorem jc1(l:List zd)(s:List UInt8)(hx:l.length<=34359738368):Pure Tryz.prog 67 [.c (.fz (l.map ja)),.c (.str s)] (.c (.int .i64 (idxA (λt=>t.name==s) l 0))):=by
 refine yaq [] jjt λG=>?_;repeat' first|refine X ?_|exact yaF|refine Y ?_ ?_<;>intro _
 refine Go.keep [0,1,5] (Go.loops (I:=λm fr V=>∃i:Nat,∃k:Int,m=l.length-i/\i<=l.length/\k=i/\idxA (λc=>c.name==s) l 0=idxA (λc=>c.name==s) (l.drop i) k/\
  fr=[(0,.c (.fz (l.map ja))),(1,.c (.str s)),(5,.c (.int .i64 k))]/\V=E G []) ?_ _ _ _ ⟨0,_,rfl,yad _,rfl,rfl,rfl,rfl⟩)
 rintro m fr V ⟨i,k,rfl,hi,hn,hsl,rfl,rfl⟩ hrec;by_cases hlt:i<l.length
 ·repeat' first|refine X ?_|((first|apply yG|apply yH|apply yI);exact rfl;(first|exact yax ja hn hlt))|exact yaF|refine Y ?_ ?_<;>intro _
  ·refine .ret rfl (.int ?_);rw[hsl,yab hlt,idxA,if_pos (by assumption)]
  ·rename_i h;refine Go.keep [0,1,5] (hrec _ _ _ O ⟨i+1,_,rfl,hlt,wb hn O, ?_,rfl,rfl⟩);rw[hsl,List.drop_eq_getElem_cons hlt,idxA,if_neg (by rw[h];simp),jg O O]
 ·repeat' first|refine X ?_|exact yaF|refine Y ?_ ?_<;>intro _
  refine .ret rfl (.int ?_);rw[hsl,yac O]
  rfl
variable {α:Type}{i:Nat}
theorem whg{p:α->Bool}{l:List α}(hi:i<l.length)(h:p l[i]=false):(l.any λa=> !p a)=true:=List.any_eq_true.2 ⟨l[i],yaa hi,by rw[h];rfl⟩
theorem wbo{p:α->Bool}{l:List α}(h:∀j (hj:j<l.length),p l[j]=true):(l.any λa=> !p a)=false:=by
 rw[ybr];intro a ha;obtain⟨j,hj,rfl⟩:=List.mem_iff_getElem.1 ha;rw[h j hj];simp
theorem upto{p:α->Bool}{l:List α}(h:∀j (hj:j<l.length),j<i->p l[j]=true)(hi:i<l.length)(hp:p l[i]=true):∀j (hj:j<l.length),j<i+1->p l[j]=true:=λj hj hji=>by
 by_cases e:j=i
 ·subst e;exact hp
 ·exact h j hj O
theorem wne{k:Int}:isIn k 1 2=(k==1||k==2):=by
 rw[ybc];simp[isIn];omega
variable {t:zd}
theorem wy:zao t=true↔jbl t.name=true/\isIn t.cols.length 1 8=true/\zbz t.key t.cols.length=true/\(t.uniques.length:Int)<=3/\(t.checks.length:Int)<=3/\(t.fks.length:Int)<=3/\jar [] t.cols=true/\
 (t.key.any λc=> !jy t c)=false/\(t.uniques.any λu=> !zbz u.cols t.cols.length)=false/\(t.checks.any λc=> !war c.expr t.cols.length)=false/\(t.fks.any λf=> !zc1 f t.cols.length)=false:=by
 simp only[zao,jbf,isIn,Bool.and_eq_true,decide_eq_true_eq,Bool.not_eq_true'];constructor
 ·rintro⟨h1,⟨h2,h3,h4⟩,h5,h6,h7,h8,h9,h10,h11,h12⟩;exact⟨h1,⟨O,h2⟩,h5,h6,h7,h8,h3,h9,h10,h11,h12⟩
 ·rintro⟨h1,⟨h2,h2'⟩,h3,h4,h5,h6,h7,h8,h9,h10,h11⟩;exact⟨h1,⟨h2',h7,O⟩,h3,h4,h5,h6,h8,h9,h10,h11⟩
theorem zaj(h:zao t=true->False):zao t=false:=by
 cases c:zao t
 ·rfl
 ·exact(h c).elim
theorem wj4(t:zd)(hb:zah 34359738368 t):Pure Tryz.prog 252 [.agg (ja t)] (.c (.bool (zao t))):=by
 refine yaq [1] zg5 λG=>?_;obtain⟨b1,b2,b3,b4,b5,b6⟩:=hb;repeat' first|refine X ?_|((first|apply Go.pcallB|apply Go.spcallB|apply Qg.pcallB);(iterate 3 exact rfl);(first|exact jgf t.name b1|exact wa4 _ _ _|exact jgg t.key t.cols.length b3 O O);intro _ _)|exact yaF|refine Y ?_ ?_<;>intro _
 ·exact .ret rfl (.bool (zaj λh=>by rename_i c p q;have h2:=(wy.1 h).1;rw[nbT p q]at h2;cases h2).symm)
 ·exact .ret rfl (.bool (zaj λh=>by rename_i c1 p1 q1 c p q;have h2:=(wy.1 h).2.1;rw[nbT p q]at h2;cases h2).symm)
 ·exact .ret rfl (.bool (zaj λh=>by rename_i c p q;have h2:=(wy.1 h).2.2.1;rw[nbT p q]at h2;cases h2).symm)
 ·exact .ret rfl (.bool (zaj λh=>by have h2:=wy.1 h;omega).symm)
 ·exact .ret rfl (.bool (zaj λh=>by have h2:=wy.1 h;omega).symm)
 ·exact .ret rfl (.bool (zaj λh=>by have h2:=wy.1 h;omega).symm)
 rename_i c1 p1 q1 c2 p2 q2 c3 p3 q3 g1 g2 g3;have k1:=nbF p1 q1;have k2:=nbF p2 q2;have k3:=nbF p3 q3;have hin:=wci k3;have hln:1<=(t.cols.length:Int)/\(t.cols.length:Int)<=8:=by simpa [isIn]using k2
 clear p1 q1 p2 q2 p3 q3
 -- the columns
 refine Go.keep [1,3,4] (Go.loops (I:=λm fr V=>∃i:Nat,∃k:Int,m=t.cols.length-i/\i<=t.cols.length/\k=i/\jar [] t.cols=jar (t.cols.take i) (t.cols.drop i)/\
  fr=[(1,.c (.fp (ja t))),(3,.c (.int .i64 (t.cols.length:Int))),(4,.c (.int .i64 k))]/\V=E G []) ?_ _ _ _ ⟨0,_,rfl,yad _,rfl,rfl,rfl,rfl⟩)
 rintro m fr V ⟨i,k,rfl,hi,hk,hsl,rfl,rfl⟩ hrec;by_cases hlt:i<t.cols.length
 ·have hd:=yab hlt;have hbc:=b2.2 _ (yaa hlt);have htk:(t.cols.map ji).take i=(t.cols.take i).map ji:=List.map_take.symm;have hstep:jar [] t.cols=(jeq t.cols[i]&& !((t.cols.take i).any λd=>d.name==t.cols[i].name)&&jar (t.cols.take (i+1)) (t.cols.drop (i+1))):=by
   rw[hsl,hd,jar,yaj hlt]
  have neg:(jeq t.cols[i]=false\/((t.cols.take i).any λd=>d.name==t.cols[i].name)=true)->zao t=false:=λh=>zaj λhh=>by
   have h2:=(wy.1 hh).2.2.2.2.2.2.1;rw[hstep]at h2;rcases h with h|h<;>simp[h]at h2
  have hany:=wb3 (p:=λd:Col=>d.name==t.cols[i].name) (l:=t.cols.take i);repeat' first|refine X ?_|((first|apply yG|apply yH|apply yI);exact rfl;(first|exact yax ji hk hlt|exact za3 (n:=i) rfl rfl hk gq (λe he=>by obtain⟨c,_,rfl⟩:=List.mem_map.1 he;rfl)))|((first|apply Go.pcallB|apply Go.spcallB|apply Qg.pcallB);(iterate 3 exact rfl);exact jgf t.cols[i].name hbc.1;intro _ _)|exact yaF|refine Y ?_ ?_<;>intro _
  ·rename_i c p q;exact .ret rfl (.bool (neg (.inl (by rw[jeq,nbT p q];rfl))).symm)
  rename_i c p q;have hnm:=nbF p q;rw[htk];repeat' first|refine X ?_|((first|apply Go.pcallB|apply Go.spcallB|apply Qg.pcallB);(iterate 3 exact rfl);(first|exact wa4 _ _ _|exact jam _);intro _ _)|((first|apply Go.pcallI|apply Go.spcallI|apply Qg.pcallI);(iterate 3 exact rfl);exact zmw (.str []) .nils .nils .nils .nils (t.cols.take i) t.cols[i].name gq;intro _ _)|exact yaF|refine Y ?_ ?_<;>intro _
  all_goals clear p q
  all_goals try(refine .ret rfl (.bool (neg ?_).symm);clear hrec hsl hstep neg hin;simp_all[jeq,wgg,wne];done)
  all_goals have hok:(jeq t.cols[i]&& !((t.cols.take i).any λd=>d.name==t.cols[i].name))=true:=(by clear hrec hsl hstep neg hin;simp_all[jeq,wgg,wne])
  all_goals refine Go.keep [1,3,4] (hrec _ _ _ O ⟨i+1,_,rfl,hlt,wb hk O, ?_,rfl,rfl⟩)
  all_goals rw[hstep,hok,yaz]
 have hfin:jar [] t.cols=true:=by
  rw[hsl,yac O]
  rfl
 clear hrec hsl;repeat' first|refine X ?_|exact yaF|refine Y ?_ ?_<;>intro _
 clear hlt hk hi
 -- the key
 refine Go.keep [1,3,6] (Go.loops (I:=λm fr V=>∃i:Nat,∃k:Int,m=t.key.length-i/\i<=t.key.length/\k=i/\(∀j (hj:j<t.key.length),j<i->jy t t.key[j]=true)/\
  fr=[(1,.c (.fp (ja t))),(3,.c (.int .i64 (t.cols.length:Int))),(6,.c (.int .i64 k))]/\V=E G []) ?_ _ _ _ ⟨0,_,rfl,yad _,rfl,λj _ h=>absurd h O,rfl,rfl⟩)
 rintro m fr V ⟨i,k,rfl,hi,hk,hall,rfl,rfl⟩ hrec;by_cases hlt:i<t.key.length
 ·have hc:=hin _ (yaa hlt);obtain⟨n,hn⟩:∃n:Nat,t.key[i]=n:=⟨t.key[i].toNat,O⟩;have hn2:n<t.cols.length:=O;have hnn:jy t t.key[i]=t.cols[n].notNull:=by simp[jy,hn,hn2]
  repeat' first|refine X ?_|((first|apply yG|apply yH|apply yI);exact rfl;(first|exact yax encI hk hlt|exact yax ji hn hn2))|exact yaF|refine Y ?_ ?_<;>intro _
  ·rename_i h;exact .ret rfl (.bool (zaj λhh=>by
    have h2:=(wy.1 hh).2.2.2.2.2.2.2.1;rw[whg hlt (by rw[hnn];simpa using h)]at h2
    cases h2).symm)
  ·rename_i h;exact Go.keep [1,3,6] (hrec _ _ _ O ⟨i+1,_,rfl,hlt,wb hk O,upto hall hlt (by rw[hnn];simpa using h),rfl,rfl⟩)
 have hkey:=wbo (p:=jy t) (l:=t.key) λj hj=>hall j hj O;clear hrec hall;repeat' first|refine X ?_|exact yaF|refine Y ?_ ?_<;>intro _
 clear hlt hk hi
 -- the uniques
 refine Go.keep [1,3,7] (Go.loops (I:=λm fr V=>∃i:Nat,∃k:Int,m=t.uniques.length-i/\i<=t.uniques.length/\k=i/\(∀j (hj:j<t.uniques.length),j<i->zbz t.uniques[j].cols t.cols.length=true)/\
  fr=[(1,.c (.fp (ja t))),(3,.c (.int .i64 (t.cols.length:Int))),(7,.c (.int .i64 k))]/\V=E G []) ?_ _ _ _ ⟨0,_,rfl,yad _,rfl,λj _ h=>absurd h O,rfl,rfl⟩)
 rintro m fr V ⟨i,k,rfl,hi,hk,hall,rfl,rfl⟩ hrec;by_cases hlt:i<t.uniques.length
 ·repeat' first|refine X ?_|((first|apply yG|apply yH|apply yI);exact rfl;(first|exact yax jo hk hlt))|((first|apply Go.pcallB|apply Go.spcallB|apply Qg.pcallB);(iterate 3 exact rfl);exact jgg t.uniques[i].cols t.cols.length (b4.2 _ (yaa hlt)) O O;intro _ _)|exact yaF|refine Y ?_ ?_<;>intro _
  ·rename_i c p q;exact .ret rfl (.bool (zaj λhh=>by
    have h2:=(wy.1 hh).2.2.2.2.2.2.2.2.1;rw[whg (p:=λu:Uniq=>zbz u.cols t.cols.length) hlt (nbT p q)]at h2
    cases h2).symm)
  ·rename_i c p q;exact Go.keep [1,3,7] (hrec _ _ _ O ⟨i+1,_,rfl,hlt,wb hk O,upto (p:=λu:Uniq=>zbz u.cols t.cols.length) hall hlt (nbF p q),rfl,rfl⟩)
 have huni:=wbo (p:=λu:Uniq=>zbz u.cols t.cols.length) (l:=t.uniques) λj hj=>hall j hj O;clear hrec hall;repeat' first|refine X ?_|exact yaF|refine Y ?_ ?_<;>intro _
 clear hlt hk hi
 -- the checks
 refine Go.keep [1,3,8] (Go.loops (I:=λm fr V=>∃i:Nat,∃k:Int,m=t.checks.length-i/\i<=t.checks.length/\k=i/\(∀j (hj:j<t.checks.length),j<i->war t.checks[j].expr t.cols.length=true)/\
  fr=[(1,.c (.fp (ja t))),(3,.c (.int .i64 (t.cols.length:Int))),(8,.c (.int .i64 k))]/\V=E G []) ?_ _ _ _ ⟨0,_,rfl,yad _,rfl,λj _ h=>absurd h O,rfl,rfl⟩)
 rintro m fr V ⟨i,k,rfl,hi,hk,hall,rfl,rfl⟩ hrec;by_cases hlt:i<t.checks.length
 ·have hx:=zgg t.checks[i].expr t.cols.length (b5.2 _ (yaa hlt)).1 O O;rw[show(decide ((t.checks[i].expr.length:Int)<=24)&&z5 t.cols.length 0 t.checks[i].expr)=war t.checks[i].expr t.cols.length from rfl]at hx;repeat' first|refine X ?_|((first|apply yG|apply yH|apply yI);exact rfl;(first|exact yax zx hk hlt))|((first|apply Go.pcallB|apply Go.spcallB|apply Qg.pcallB);(iterate 3 exact rfl);exact hx;intro _ _)|exact yaF|refine Y ?_ ?_<;>intro _
  ·rename_i c p q;exact .ret rfl (.bool (zaj λhh=>by
    have h2:=(wy.1 hh).2.2.2.2.2.2.2.2.2.1;rw[whg (p:=λu:Chk=>war u.expr t.cols.length) hlt (nbT p q)]at h2
    cases h2).symm)
  ·rename_i c p q;exact Go.keep [1,3,8] (hrec _ _ _ O ⟨i+1,_,rfl,hlt,wb hk O,upto (p:=λu:Chk=>war u.expr t.cols.length) hall hlt (nbF p q),rfl,rfl⟩)
 have hchk:=wbo (p:=λu:Chk=>war u.expr t.cols.length) (l:=t.checks) λj hj=>hall j hj O;clear hrec hall;repeat' first|refine X ?_|exact yaF|refine Y ?_ ?_<;>intro _
 clear hlt hk hi
 -- the references
 refine Go.keep [1,3,9] (Go.loops (I:=λm fr V=>∃i:Nat,∃k:Int,m=t.fks.length-i/\i<=t.fks.length/\k=i/\(∀j (hj:j<t.fks.length),j<i->zc1 t.fks[j] t.cols.length=true)/\
  fr=[(1,.c (.fp (ja t))),(3,.c (.int .i64 (t.cols.length:Int))),(9,.c (.int .i64 k))]/\V=E G []) ?_ _ _ _ ⟨0,_,rfl,yad _,rfl,λj _ h=>absurd h O,rfl,rfl⟩)
 rintro m fr V ⟨i,k,rfl,hi,hk,hall,rfl,rfl⟩ hrec;by_cases hlt:i<t.fks.length
 ·have hbf:=b6.2 _ (yaa hlt);have neg:zc1 t.fks[i] t.cols.length=false->zao t=false:=λh=>zaj λhh=>by
   have h2:=(wy.1 hh).2.2.2.2.2.2.2.2.2.2;rw[whg (p:=λu:Fk=>zc1 u t.cols.length) hlt h]at h2
   cases h2
  repeat' first|refine X ?_|((first|apply yG|apply yH|apply yI);exact rfl;(first|exact yax j3 hk hlt))|((first|apply Go.pcallB|apply Go.spcallB|apply Qg.pcallB);(iterate 3 exact rfl);(first|exact jgg t.fks[i].cols t.cols.length hbf.1 O O|exact jgf t.fks[i].table hbf.2|exact wa4 _ _ _);intro _ _)|exact yaF|refine Y ?_ ?_<;>intro _
  all_goals try(refine .ret rfl (.bool (neg ?_).symm);clear hrec neg hin hall hkey huni hchk;simp_all[zc1];done)
  have hok:zc1 t.fks[i] t.cols.length=true:=by
   clear hrec neg hin hall hkey huni hchk;simp_all[zc1]
  exact Go.keep [1,3,9] (hrec _ _ _ O ⟨i+1,_,rfl,hlt,wb hk O,upto (p:=λu:Fk=>zc1 u t.cols.length) hall hlt hok,rfl,rfl⟩)
 have hfk:=wbo (p:=λu:Fk=>zc1 u t.cols.length) (l:=t.fks) λj hj=>hall j hj O;clear hrec hall;repeat' first|refine X ?_|exact yaF|refine Y ?_ ?_<;>intro _
 refine .ret rfl (.bool ?_);rw[eq_comm,wy];exact⟨k1,k2,k3,O,O,O,hfin,hkey,huni,hchk,hfk⟩
def z6:Val:=⟨0,0,[]⟩
def vInt(n:Int):Val:=⟨1,n,[]⟩
def yes(b:Bool):Int:=if b then 1 else 0
def zak(v:Val):Int:=if v.k=0 then 2 else if v.k=1 then(if v.n=0 then 0 else 1)else -1
def jdj(a b:Val):Bool:=ju a&&(ju b&&(!(a.k==0)&& !(b.k==0)))
def eq3(a b:Val):Int:=if jdj a b then yes (a==b)else 2
def zgh(a b:Val):Int:=if jdj a b then yes (decide (jlk a b<0))else 2
def tru(a:Int):Bool:=isIn a 0 2
def and3(a b:Int):Int:=if tru a&&tru b then(if a=0\/b=0 then 0 else if a=1/\b=1 then 1 else 2)else -1
def or3(a b:Int):Int:=if tru a&&tru b then(if a=1\/b=1 then 1 else if a=0/\b=0 then 0 else 2)else -1
def not3(a:Int):Int:=if tru a then(if a=2 then 2 else 1-a)else -1
def asV(t:Int):Val×Bool:=if t=2 then(z6,true)else(vInt t,decide (0<=t))
def sumV(a b:Val)(s:Int):Val×Bool:=if a.k=2\/b.k=2 then(z6,false)else if a.k=0\/b.k=0 then(z6,true)else(vInt (a.n+s*b.n),ju (vInt (a.n+s*b.n)))
def vAt(l:List Val)(i:Nat):Val:=l[i]?.getD z6
def zz(t:Tok)(l row:List Val):Val×Bool:=
 if t.kind=1 then(vAt row t.col.toNat,true)else if t.kind=2 then(t.v,true)else if t.kind=3 then asV (eq3 (vAt l 0) (vAt l 1))else if t.kind=4 then asV (zgh (vAt l 0) (vAt l 1))
 else if t.kind=5 then asV (and3 (zak (vAt l 0)) (zak (vAt l 1)))else if t.kind=6 then asV (or3 (zak (vAt l 0)) (zak (vAt l 1)))else if t.kind=7 then asV (not3 (zak (vAt l 0)))
 else if t.kind=8 then asV (yes ((vAt l 0).k==0))else if t.kind=9 then sumV (vAt l 0) (vAt l 1) 1 else sumV (vAt l 0) (vAt l 1) (-1)
def jao(t:Tok)(st:List Val):Nat:=st.length-(wg t).toNat
def zg9(row:List Val):List Tok->List Val->Option (List Val)
 |[],st=>some st
 |t::r,st=>if(zz t (st.drop (jao t st)) row).2 then zg9 row r (st.take (jao t st)++[(zz t (st.drop (jao t st)) row).1])else none
def za5(e:List Tok)(row:List Val):Val×Bool:=match zg9 row e []with
 |some (v::_)=>(v,true)
 |_=>(z6,false)
def wdj(e:List Tok)(row:List Val):Bool:=jt row 16&&war e row.length
def zfk(e:List Tok)(row:List Val):Val×Bool:=if wdj e row then za5 e row else(z6,false)
def wc1(e:List Tok)(row:List Val):Int:=if(za5 e row).2 then zak (za5 e row).1 else -1
def jcb(e:List Tok)(row:List Val):Int:=if wdj e row then wc1 e row else -1
theorem jlr(e:List Tok)(row:List Val):(if(zfk e row).2 then zak (zfk e row).1 else -1)=jcb e row:=by
 simp only[zfk,jcb,wc1];split<;>simp
def Oks(l:List Val):Prop:=∀v∈l,ju v=true
theorem Oks.at_{l:List Val}(h:Oks l)(i:Nat):ju (vAt l i)=true:=by
 simp only[vAt]
 cases hi:l[i]? with
 |none=>rfl
 |some v=>exact h v (List.mem_of_getElem? hi)
theorem wlr{n:Int}(h0:-1000000000<=n)(h1:n<=1000000000):ju (vInt n)=true:=by
 simp[ju,vInt,isIn,h0,h1]
theorem zc2(b:Bool):0<=yes b/\yes b<=1:=by cases b<;>simp[yes]
theorem wcb{t:Int}(h:t<=2)(hk:(asV t).2=true):ju (asV t).1=true:=by
 simp only[asV]at hk⊢;split
 ·rfl
 ·rename_i h2;rw[if_neg h2]at hk;have h0:0<=t:=of_decide_eq_true hk;exact wlr O O
theorem zhh{a b:Val}{s:Int}(hk:(sumV a b s).2=true):ju (sumV a b s).1=true:=by
 simp only[sumV]at hk⊢;split
 ·rfl
 ·rename_i h;rw[if_neg h]at hk;split
  ·rfl
  ·rename_i h2;rw[if_neg h2]at hk;exact hk
theorem wja(a b:Val):0<=eq3 a b/\eq3 a b<=2:=by
 simp only[eq3];have:=zc2 (a==b);split<;>omega
theorem jgh(a b:Val):0<=zgh a b/\zgh a b<=2:=by
 simp only[zgh];have:=zc2 (decide (jlk a b<0));split<;>omega
theorem jk2(a b:Int):-1<=and3 a b/\and3 a b<=2:=by
 simp only[and3];split
 ·split
  ·omega
  ·split<;>omega
 ·omega
theorem zls(a b:Int):-1<=or3 a b/\or3 a b<=2:=by
 simp only[or3];split
 ·split
  ·omega
  ·split<;>omega
 ·omega
variable {a:Int}
theorem ja5:tru a=true↔0<=a/\a<=2:=by simp[tru,isIn]
theorem wk2(a:Int):-1<=not3 a/\not3 a<=2:=by
 simp only[not3];split
 ·rename_i h;have:=ja5.1 h;split<;>omega
 ·omega
theorem wgh{t:Tok}{l row:List Val}(ht:t.kind=2->ju t.v=true)(hl:Oks l)(hr:Oks row)(h:(zz t l row).2=true):ju (zz t l row).1=true:=by
 simp only[zz]at h⊢;split
 ·exact hr.at_ _
 ·rename_i n1;rw[if_neg n1]at h;split
  ·rename_i n2;exact ht n2
  ·rename_i n2;rw[if_neg n2]at h;split
   ·rename_i n3;rw[if_pos n3]at h;exact wcb (wja _ _).2 h
   ·rename_i n3;rw[if_neg n3]at h;split
    ·rename_i n4;rw[if_pos n4]at h;exact wcb (jgh _ _).2 h
    ·rename_i n4;rw[if_neg n4]at h;split
     ·rename_i n5;rw[if_pos n5]at h;exact wcb (jk2 _ _).2 h
     ·rename_i n5;rw[if_neg n5]at h;split
      ·rename_i n6;rw[if_pos n6]at h;exact wcb (zls _ _).2 h
      ·rename_i n6;rw[if_neg n6]at h;split
       ·rename_i n7;rw[if_pos n7]at h;exact wcb (wk2 _).2 h
       ·rename_i n7;rw[if_neg n7]at h;split
        ·rename_i n8;rw[if_pos n8]at h;exact wcb (by have:=zc2 ((vAt l 0).k==0);omega) h
        ·rename_i n8;rw[if_neg n8]at h;split
         ·rename_i n9;rw[if_pos n9]at h;exact zhh h
         ·rename_i n9;rw[if_neg n9]at h;exact zhh h
theorem jdt{t:Tok}{n:Int}(h:jba t n=true)(h2:t.kind=2):ju t.v=true:=by
 simp only[jba]at h;rw[if_neg O,if_pos h2]at h;simp at h;exact h.2
theorem zcj{v:Val}(h:ju v=true)(h1:v.k=1):-1000000000<=v.n/\v.n<=1000000000:=by
 simp[ju,isIn,h1]at h;exact h.1
theorem jc9{v:Val}(h:ju v=true):v.k=0\/v.k=1\/v.k=2:=by
 simp[ju]at h;rcases h with(h|h)|h<;>simp[h]
theorem jd8{xs ys:List Val}(h1:i<xs.length)(h2:i<ys.length):(xs.drop i==ys.drop i)=((xs[i].k==ys[i].k&&(xs[i].n==ys[i].n&&xs[i].s==ys[i].s))&&(xs.drop (i+1)==ys.drop (i+1))):=by
 rw[yab h1,yab h2,List.cons_beq_cons]
 congr 1
 generalize xs[i]=a;generalize ys[i]=b;obtain⟨a1,a2,a3⟩:=a;obtain⟨b1,b2,b3⟩:=b;rw[ybc];simp
theorem zbp(xs ys:List Val)(hx:xs.length<=34359738368):Pure Tryz.prog 329 [.c (.fz (xs.map encV)),.c (.fz (ys.map encV))] (.c (.bool (xs==ys))):=by
 refine yaq [] weo λG=>?_;repeat' first|refine X ?_|exact yaF|refine Y ?_ ?_<;>intro _
 ·refine .ret rfl (.bool ?_);rw[eq_comm,beq_eq_false_iff_ne];rintro rfl;simp at*
 refine Go.keep [0,1,5] (Go.loops (I:=λm fr V=>∃i:Nat,∃n:Int,m=xs.length-i/\i<=xs.length/\n=i/\(xs.length=ys.length/\(xs==ys)=(xs.drop i==ys.drop i))/\
  fr=[(0,.c (.fz (xs.map encV))),(1,.c (.fz (ys.map encV))),(5,.c (.int .i64 n))]/\V=E G []) ?_ _ _ _ ⟨0,_,rfl,yad _,rfl,⟨O,rfl⟩,rfl,rfl⟩)
 rintro m fr V ⟨i,n,rfl,hi,hn,⟨hl,hsl⟩,rfl,rfl⟩ hrec;by_cases hlt:i<xs.length
 ·have hlt2:i<ys.length:=O;have hst:=jd8 hlt hlt2;repeat' first|refine X ?_|((first|apply yG|apply yH|apply yI);exact rfl;(first|exact yax encV hn hlt|exact yax encV hn hlt2))|exact yaF|refine Y ?_ ?_<;>intro _
  ·refine .ret rfl (.bool ?_);rw[hsl,hst];clear hrec;simp_all
   intros
   simp_all
  ·refine Go.keep [0,1,5] (hrec _ _ _ O ⟨i+1,_,rfl,hlt,wb hn O,⟨hl, ?_⟩,rfl,rfl⟩);rw[hsl,hst];clear hrec;simp_all
 ·repeat' first|refine X ?_|exact yaF|refine Y ?_ ?_<;>intro _
  refine .ret rfl (.bool ?_);rw[hsl,yac O,yac O]
  rfl
theorem ze0(xs ys:List Val)(hx:xs.length<=34359738368):Pure Tryz.prog 346 [.c (.fz (xs.map encV)),.c (.fz (ys.map encV))] (.c (.bool (xs==ys))):=by
 refine yaq [] wd5 λG=>?_;repeat' first|refine X ?_|exact yaF|refine Y ?_ ?_<;>intro _
 ·refine .ret rfl (.bool ?_);rw[eq_comm,beq_eq_false_iff_ne];rintro rfl;simp at*
 refine Go.keep [0,1,12,13] (Go.loops (I:=λm fr V=>∃i:Nat,∃n:Int,m=xs.length-i/\i<=xs.length/\n=i/\(xs.length=ys.length/\(xs==ys)=(xs.drop i==ys.drop i))/\
  fr=[(0,.c (.fz (xs.map encV))),(1,.c (.fz (ys.map encV))),(12,.c (.int .i64 (xs.length:Int))),(13,.c (.int .i64 n))]/\V=E G []) ?_ _ _ _ ⟨0,_,rfl,yad _,rfl,⟨O,rfl⟩,rfl,rfl⟩)
 rintro m fr V ⟨i,n,rfl,hi,hn,⟨hl,hsl⟩,rfl,rfl⟩ hrec;by_cases hlt:i<xs.length
 ·have hlt2:i<ys.length:=O;have hst:=jd8 hlt hlt2;repeat' first|refine X ?_|((first|apply yG|apply yH|apply yI);exact rfl;(first|exact yax encV hn hlt|exact yax encV hn hlt2))|exact yaF|refine Y ?_ ?_<;>intro _
  ·refine .ret rfl (.bool ?_);rw[hsl,hst];clear hrec;simp_all
   intros
   simp_all
  ·refine Go.keep [0,1,12,13] (hrec _ _ _ O ⟨i+1,_,rfl,hlt,wb hn O,⟨hl, ?_⟩,rfl,rfl⟩);rw[hsl,hst];clear hrec;simp_all
 ·repeat' first|refine X ?_|exact yaF|refine Y ?_ ?_<;>intro _
  refine .ret rfl (.bool ?_);rw[hsl,yac O,yac O]
  rfl
theorem jak{xs:List Val}:∀e∈xs.map encV,e.length=3/\∀x∈e,Flat x:=by
 intro e he;obtain⟨a,_,rfl⟩:=List.mem_map.1 he;exact⟨rfl,wll a⟩
theorem znf(v w:Val):((v.k==w.k&&(v.n==w.n&&(v.s==w.s&&true))) !=false)=(v==w):=by
 obtain⟨a,b,c⟩:=v;obtain⟨d,e,f⟩:=w;rw[ybc];simp
theorem jls(v:Val):∀x∈encV v,Flat x:=wll v
variable {G:wa}{l:List (Nat×List (List Ce))}
theorem jnp(v:Val):Fin G (.agg (encV v)) (.agg (encV v)) (E G l):=
 ⟨l,rfl,.refl λy hy=>(jls v y hy).old _⟩
theorem wac(v:Val)(b:Bool):Fin G (.tup [.agg (encV v),.c (.bool b)]) (.tup [.agg (encV v),.c (.bool b)]) (E G l):=
 ⟨l,rfl,.refl λy hy=>by
  simp[AV.all,AV.all.allL,encV]at hy;rcases hy with rfl|rfl|rfl|rfl
  ·exact .int _ _
  ·exact .int _ _
  ·exact .str _
  ·exact .bool _⟩
variable {fr:Fr}{v j:Nat}{es:List (List Ce)}{e:List Ce}
theorem wx{k t u s:Nat}{g:Bool}{x y:AV}(hp:look fr t=some (.c (.ptr (G.next+k) v i j)))(hl:l[k]?=some (v,es))(he:es[i]?=some e)(hj:j<=e.length)(hx:zcr g s (e.drop j)=some x)(hu:look fr u=some y):
 retv fr (E G l) [.m t g s,.t u]=some (.tup [x,y]):=by
 have h1:=ja2 hp hl he hj hx;simp only[retv,revs]at h1⊢
 cases hq:RV.ev fr (E G l) (.m t g s)with
 |none=>rw[hq]at h1;simp at h1
 |some q=>
  rw[hq]at h1;simp only[Option.some.injEq]at h1;subst h1;have h2:RV.ev fr (E G l) (.t u)=some y:=hu;rw[h2]
theorem wc9(b:Bool):Pure Tryz.prog 244 [.c (.bool b)] (.c (.int .i64 (yes b))):=by
 refine yaq [] jg4 λG=>?_;repeat' first|refine X ?_|exact yaF|refine Y ?_ ?_<;>intro _
 all_goals refine .ret rfl (.int ?_)
 all_goals simp_all[yes]
theorem wfl(v:Val):Pure Tryz.prog 147 [.agg (encV v)] (.c (.int .i64 (zak v))):=by
 refine yaq [1] jiu λG=>?_;repeat' first|refine X ?_|((first|apply yQ|apply yR|apply yS);(iterate 3 exact rfl);exact wc9 _)|exact yaF|refine Y ?_ ?_<;>intro _
 all_goals refine .ret rfl (.int ?_)
 all_goals simp_all[zak,yes]
 all_goals(cases h:decide (v.n=0)<;>simp_all)
theorem zib(t:Int):Pure Tryz.prog 307 [.c (.int .i64 t)] (.tup [.agg (encV (asV t).1),.c (.bool (asV t).2)]):=by
 refine yaq [] wi3 λG=>?_;repeat' first|refine X ?_|exact yaF|refine Y ?_ ?_<;>intro _
 ·rename_i h;rw[asV,if_pos h];exact .ret (wx rfl rfl rfl (yad _) rfl rfl) (wac _ _)
 ·rename_i h;rw[asV,if_neg h];exact .ret (wx rfl rfl rfl (yad _) rfl rfl) (wac (vInt t) _)
theorem zgi(v w:Val):Pure Tryz.prog 354 [.agg (encV v),.agg (encV w)] (.c (.bool (jdj v w))):=by
 refine yaq [2,3] zgb λG=>?_;repeat' first|refine X ?_|((first|apply Go.pcallB|apply Go.spcallB|apply Qg.pcallB);(iterate 3 exact rfl);(first|exact wc8 v|exact wc8 w);intro _ _)|exact yaF|refine Y ?_ ?_<;>intro _
 all_goals refine .ret rfl (.bool ?_)
 all_goals simp_all[jdj]
 all_goals first
  |rfl
  |(rename_i h;rw[beq_eq_false_iff_ne.2 h];rfl)
theorem wls(v w:Val):Pure Tryz.prog 308 [.agg (encV v),.agg (encV w)] (.c (.int .i64 (eq3 v w))):=by
 refine yaq [2,3] wh6 λG=>?_;repeat' first|refine X ?_|((first|apply yQ|apply yR|apply yS);(iterate 3 exact rfl);exact wc9 _)|((first|apply Go.pcallB|apply Go.spcallB|apply Qg.pcallB);(iterate 3 exact rfl);exact zgi v w;intro _ _)|exact yaF|refine Y ?_ ?_<;>intro _
 all_goals refine .ret rfl (.int ?_)
 all_goals rename_i b p k
 ·rw[eq3,nbT p k]
  rfl
 ·rw[eq3,nbF p k,znf]
  rfl
theorem jmw(v w:Val):Pure Tryz.prog 309 [.agg (encV v),.agg (encV w)] (.c (.int .i64 (zgh v w))):=by
 refine yaq [2,3] zi4 λG=>?_;repeat' first|refine X ?_|refine yaC (zmp v w) ?_|((first|apply yQ|apply yR|apply yS);(iterate 3 exact rfl);exact wc9 _)|((first|apply Go.pcallB|apply Go.spcallB|apply Qg.pcallB);(iterate 3 exact rfl);exact zgi v w;intro _ _)|exact yaF|refine Y ?_ ?_<;>intro _
 all_goals refine .ret rfl (.int ?_)
 all_goals rename_i b p k
 ·rw[zgh,nbT p k]
  rfl
 ·rw[zgh,nbF p k]
  rfl
theorem jib(t:Int):Pure Tryz.prog 377 [.c (.int .i64 t)] (.c (.bool (!tru t))):=by
 refine yaq [] zd6 λG=>?_;repeat' first|refine X ?_|((first|apply yQ|apply yR|apply yS);(iterate 3 exact rfl);exact jfj _ _ _)|exact yaF|refine Y ?_ ?_<;>intro _
 exact .ret rfl (.bool rfl)
theorem jc2(l:List Int)(hx:l.length<=34359738368):Pure Tryz.prog 356 [.c (.fz (l.map encI))] (.c (.bool (!(l.any λt=> !tru t)))):=by
 refine yaq [] jfi λG=>?_;repeat' first|refine X ?_|((first|apply yQ|apply yR|apply yS);(iterate 3 exact rfl);exact wj mixed j9 jad encI (λn=>.c (.int .i64 n)) (λ_=>rfl) (λ_=>rfl) l (λt=> !tru t) _ [] [] hx (λj hj _=>jib _))|exact yaF|refine Y ?_ ?_<;>intro _
 exact .ret rfl (.bool rfl)
theorem jhh(a b:Int):(!([a,b].any λt=> !tru t))=(tru a&&tru b):=by
 simp only[List.any_cons,List.any_nil]
 cases tru a<;>cases tru b<;>rfl
theorem wnp(a b:Int):Pure Tryz.prog 310 [.c (.int .i64 a),.c (.int .i64 b)] (.c (.int .i64 (and3 a b))):=by
 refine yaq [8] wjx λG=>?_;have c1:=jc2 [a,b] gx;rw[jhh]at c1;repeat' first|refine X ?_|((first|apply Go.pcallB|apply Go.spcallB|apply Qg.pcallB);(iterate 3 exact rfl);exact c1;intro _ _)|exact yaF|refine Y ?_ ?_<;>intro _
 all_goals refine .ret rfl (.int ?_)
 all_goals clear c1
 all_goals simp_all[and3]
theorem zn6(a b:Int):Pure Tryz.prog 311 [.c (.int .i64 a),.c (.int .i64 b)] (.c (.int .i64 (or3 a b))):=by
 refine yaq [8] wkw λG=>?_;have c1:=jc2 [a,b] gx;rw[jhh]at c1;repeat' first|refine X ?_|((first|apply Go.pcallB|apply Go.spcallB|apply Qg.pcallB);(iterate 3 exact rfl);exact c1;intro _ _)|exact yaF|refine Y ?_ ?_<;>intro _
 all_goals refine .ret rfl (.int ?_)
 all_goals clear c1
 all_goals simp_all[or3]
theorem znq(a:Int):Pure Tryz.prog 312 [.c (.int .i64 a)] (.c (.int .i64 (not3 a))):=by
 refine yaq [5] zjy λG=>?_;have c1:=jc2 [a] gx;have h1:(!([a].any λt=> !tru t))=tru a:=by simp only[List.any_cons,List.any_nil];cases tru a<;>rfl
 rw[h1]at c1;repeat' first|refine X ?_|((first|apply Go.pcallB|apply Go.spcallB|apply Qg.pcallB);(iterate 3 exact rfl);exact c1;intro _ _)|exact yaF|refine Y ?_ ?_<;>intro _
 all_goals refine .ret rfl (.int ?_)
 all_goals clear c1
 ·rename_i b p k;rw[not3,nbT p k]
  rfl
 ·rename_i b p k h;rw[not3,nbF p k,if_pos rfl,if_pos h]
 ·rename_i b p k h;have hr:=ja5.1 (nbF p k);rw[not3,nbF p k,if_pos rfl,if_neg h];exact jg O O
theorem wkn(a b:Val)(s:Int)(hs:s=1\/s=-1)(ha:ju a=true)(hb:ju b=true):Pure Tryz.prog 313 [.agg (encV a),.agg (encV b),.c (.int .i64 s)] (.tup [.agg (encV (sumV a b s).1),.c (.bool (sumV a b s).2)]):=by
 refine yaq [3,4] ji4 λG=>?_;by_cases h1:a.k=2\/b.k=2
 ·have e:sumV a b s=(z6,false):=by simp only[sumV,if_pos h1]
  rw[e];rcases h1 with h1|h1
  ·repeat' first|refine X ?_|exact yaF|refine Y ?_ ?_<;>intro _
   all_goals first
    |exact .ret (wx rfl rfl rfl (yad _) rfl rfl) (wac z6 _)
    |(exfalso;omega)
  ·repeat' first|refine X ?_|exact yaF|refine Y ?_ ?_<;>intro _
   all_goals first
    |exact .ret (wx rfl rfl rfl (yad _) rfl rfl) (wac z6 _)
    |(exfalso;omega)
 by_cases h2:a.k=0\/b.k=0
 ·have e:sumV a b s=(z6,true):=by simp only[sumV,if_neg h1,if_pos h2]
  rw[e];rcases h2 with h2|h2
  ·repeat' first|refine X ?_|exact yaF|refine Y ?_ ?_<;>intro _
   all_goals first
    |exact .ret (wx rfl rfl rfl (yad _) rfl rfl) (wac z6 _)
    |(exfalso;omega)
  ·repeat' first|refine X ?_|exact yaF|refine Y ?_ ?_<;>intro _
   all_goals first
    |exact .ret (wx rfl rfl rfl (yad _) rfl rfl) (wac z6 _)
    |(exfalso;omega)
 have e:sumV a b s=(vInt (a.n+s*b.n),ju (vInt (a.n+s*b.n))):=by simp only[sumV,if_neg h1,if_neg h2]
 have ka:a.k=1:=by have:=jc9 ha;omega
 have kb:b.k=1:=by have:=jc9 hb;omega
 have ra:=zcj ha ka;have rb:=zcj hb kb;have hw:IntKind.i64.wrap (a.n+IntKind.i64.wrap (s*b.n))=a.n+s*b.n:=by
  rcases hs with rfl|rfl
  ·rw[jg (n:=1*b.n) O O,jg O O]
  ·rw[jg (n:=-1*b.n) O O,jg O O]
 rw[e];repeat' first|refine X ?_|((first|apply yG|apply yH|apply yI);exact rfl;(first|exact jm rfl rfl rfl rfl rfl rfl gz))|refine yaC (wc8 (vInt (IntKind.i64.wrap (a.n+IntKind.i64.wrap (s*b.n))))) ?_|exact yaF|refine Y ?_ ?_<;>intro _
 all_goals first
  |(exfalso;omega)
  |skip
 rw[hw];exact .ret (wx rfl rfl rfl (yad _) rfl rfl) (wac (vInt _) _)
theorem zlt(t:Tok)(row:List Val)(hk:t.kind=1\/t.kind=2)(hc:t.kind=1->0<=t.col/\t.col<row.length):Pure Tryz.prog 243 [.agg (zh t),.c (.fz []),.c (.fz (row.map encV))] (.tup [.agg (encV (zz t [] row).1),.c (.bool (zz t [] row).2)]):=by
 refine yas za1 λG=>?_;rcases hk with h1|h1
 ·have h2:=hc h1;have hn:t.col.toNat<row.length:=O;have hz:t.col=(t.col.toNat:Int):=O;have e:zz t [] row=(row[t.col.toNat],true):=by simp[zz,h1,vAt,hn]
  rw[e];repeat' first|refine X ?_|((first|apply yG|apply yH|apply yI);exact rfl;(first|exact yax encV hz hn))|exact yaF|refine Y ?_ ?_<;>intro _
  exact .ret (wx rfl rfl rfl (yad _) rfl rfl) (wac row[t.col.toNat] _)
 ·have e:zz t [] row=(t.v,true):=by simp[zz,h1]
  rw[e];repeat' first|refine X ?_|exact yaF|refine Y ?_ ?_<;>intro _
  exact .ret (wx rfl rfl rfl (yad _) rfl rfl) (wac t.v _)
theorem jlt(t:Tok)(x:Val)(row:List Val)(hk:t.kind=7\/t.kind=8):Pure Tryz.prog 243 [.agg (zh t),.c (.fz [encV x]),.c (.fz (row.map encV))] (.tup [.agg (encV (zz t [x] row).1),.c (.bool (zz t [x] row).2)]):=by
 refine yas za1 λG=>?_;rcases hk with h1|h1
 ·have e:zz t [x] row=asV (not3 (zak x)):=by simp[zz,h1,vAt]
  rw[e];repeat' first|refine X ?_|refine yaC (wfl x) ?_|((first|apply yQ|apply yR|apply yS);(iterate 3 exact rfl);exact znq _)|((first|apply yQ|apply yR|apply yS);(iterate 3 exact rfl);exact zib _)|exact yaF|refine Y ?_ ?_<;>intro _
  exact .ret (wx rfl rfl rfl (yad _) rfl rfl) (wac _ _)
 ·have e:zz t [x] row=asV (yes (x.k==0)):=by simp[zz,h1,vAt]
  rw[e];repeat' first|refine X ?_|((first|apply yQ|apply yR|apply yS);(iterate 3 exact rfl);exact wc9 _)|((first|apply yQ|apply yR|apply yS);(iterate 3 exact rfl);exact zib _)|exact yaF|refine Y ?_ ?_<;>intro _
  exact .ret (wx rfl rfl rfl (yad _) rfl rfl) (wac _ _)
theorem wlt(t:Tok)(x y:Val)(row:List Val)(hk:t.kind=3\/t.kind=4\/t.kind=5\/t.kind=6\/t.kind=9\/t.kind=10)(hx:ju x=true)(hy:ju y=true):Pure Tryz.prog 243 [.agg (zh t),.c (.fz [encV x,encV y]),.c (.fz (row.map encV))] (.tup [.agg (encV (zz t [x,y] row).1),.c (.bool (zz t [x,y] row).2)]):=by
 refine yas za1 λG=>?_;obtain⟨r,hr⟩:∃r,zz t [x,y] row=r:=⟨_,rfl⟩;rcases hk with h1|h1|h1|h1|h1|h1;all_goals simp only[zz,h1,vAt,List.getElem?_cons_zero,List.getElem?_cons_succ,Option.getD_some,Int.reduceEq,if_true,if_false,reduceIte]at hr
 all_goals rw[show zz t [x,y] row=r by simp[zz,h1,vAt,hr]]
 all_goals repeat' first|refine X ?_|((first|apply yG|apply yH|apply yI);exact rfl;(first|exact jm rfl rfl rfl rfl rfl rfl gz))|refine yaC (wls x y) ?_|refine yaC (jmw x y) ?_|refine yaC (wfl x) ?_|refine yaC (wfl y) ?_|((first|apply yQ|apply yR|apply yS);(iterate 3 exact rfl);exact wnp _ _)|((first|apply yQ|apply yR|apply yS);(iterate 3 exact rfl);exact zn6 _ _)|refine yaC (wkn x y 1 (.inl rfl) hx hy) ?_|refine yaC (wkn x y (-1) (.inr rfl) hx hy) ?_|((first|apply yQ|apply yR|apply yS);(iterate 3 exact rfl);exact zib _)|exact yaF|refine Y ?_ ?_<;>intro _
 all_goals subst hr
 all_goals exact .ret (wx rfl rfl rfl (yad _) rfl rfl) (wac _ _)
theorem zlu(v:Val):zdd (.agg (encV v)):=.agg _ λi hi=>by
 have:i=0\/i=1\/i=2:=by simp only[encV,List.length_cons,List.length_nil]at hi;omega
 rcases this with rfl|rfl|rfl
 ·exact .int _ _
 ·exact .int _ _
 ·exact .str _
theorem wmw(v:Val)(b:Bool):zdd (.tup [.agg (encV v),.c (.bool b)]):=.tup _ λi hi=>by
 have:i=0\/i=1:=by simp only[List.length_cons,List.length_nil]at hi;omega
 rcases this with rfl|rfl
 ·exact zlu v
 ·exact .bool b
theorem jgi{t:Tok}{n:Int}(h:jba t n=true):t.kind=1\/t.kind=2\/(t.kind=3\/t.kind=4\/t.kind=5\/t.kind=6\/t.kind=7\/t.kind=8\/t.kind=9\/t.kind=10):=by
 simp only[jba]at h;split at h
 ·exact .inl ‹_›
 ·split at h
  ·exact .inr (.inl ‹_›)
  ·simp only[Bool.and_eq_true]at h;exact .inr (.inr (zkn.1 h.1.1))
theorem zjb{t:Tok}{n:Int}(h:jba t n=true)(h1:t.kind=1):0<=t.col/\t.col<n:=by
 simp only[jba,if_pos h1,Bool.and_eq_true,isIn,decide_eq_true_eq]at h;omega
theorem zmx(t:Tok)(l row:List Val)(ht:jba t row.length=true)(hl:(l.length:Int)=wg t)(ho:Oks l):Pure Tryz.prog 243 [.agg (zh t),.c (.fz (l.map encV)),.c (.fz (row.map encV))] (.tup [.agg (encV (zz t l row).1),.c (.bool (zz t l row).2)]):=by
 have hk:=jgi ht;have hc:=zjb ht;by_cases h0:t.kind=1\/t.kind=2
 ·have:wg t=0:=by rw[wg,if_pos h0]
  have hl0:l=[]:=yal O;subst hl0;exact zlt t row h0 hc
 by_cases h1:t.kind=7\/t.kind=8
 ·have:wg t=1:=by rw[wg,if_neg h0,if_pos h1]
  match l,hl with
  |[x],_=>exact jlt t x row h1
  |[],hl=>simp at hl;omega
  |_::_::_,hl=>simp only[List.length_cons]at hl;omega
 ·have:wg t=2:=by rw[wg,if_neg h0,if_neg h1]
  match l,hl with
  |[x,y],_=>exact wlt t x y row O (ho x gx) (ho y gx)
  |[],hl=>simp at hl;omega
  |[_],hl=>simp at hl;omega
  |_::_::_::_,hl=>simp only[List.length_cons]at hl;omega
theorem wgi{l:List Val}{n:Int}(h:jt l n=true):Oks l/\(l.length:Int)<=n:=by
 simp only[jt,Bool.and_eq_true,decide_eq_true_eq,List.all_eq_true]at h;exact⟨h.2,h.1⟩
theorem zbi{e:List Tok}{n:Int}(h:war e n=true):(e.length:Int)<=24/\z5 n 0 e=true:=by
 simpa only[war,Bool.and_eq_true,decide_eq_true_eq]using h
theorem wc2{n:Int}{t:Tok}{r:List Tok}(h:z5 n a (t::r)=true):jba t n=true/\wg t<=a/\z5 n (a+1-wg t) r=true:=by
 simp only[z5,Bool.and_eq_true,decide_eq_true_eq]at h;exact⟨h.1.1,h.1.2,h.2⟩
theorem Oks.take{l:List Val}(h:Oks l)(n:Nat):Oks (l.take n):=λv hv=>h v (List.mem_of_mem_take hv)
theorem Oks.drop{l:List Val}(h:Oks l)(n:Nat):Oks (l.drop n):=λv hv=>h v (ybp hv)
theorem Oks.snoc{l:List Val}(h:Oks l){v:Val}(hv:ju v=true):Oks (l++[v]):=λw hw=>by
 rcases List.mem_append.1 hw with hw|hw
 ·exact h w hw
 ·rw[List.mem_singleton.1 hw];exact hv
theorem jfk{l:List Val}:∀e∈l.map encV,∀x∈e,Flat x:=λe he x hx=>(jak e he).2 x hx
theorem lens{l:List Val}:∀e∈l.map encV,e.length=3:=λe he=>(jak e he).1
variable {n:Nat}
theorem wdt{id:Nat}(h:id<n):∀y∈(AV.c (.ptr id v i j)).all,Old n y:=λy hy=>by
 simp only[AV.all,List.mem_singleton]at hy;subst hy;exact .ptr _ _ _ _ h
theorem je0{id c:Nat}(h:id<n):∀y∈(AV.c (.sl id v i j c)).all,Old n y:=λy hy=>by
 simp only[AV.all,List.mem_singleton]at hy;subst hy;exact .sl _ _ _ _ _ h
theorem wu{k:IntKind}{z:Int}:∀y∈(AV.c (.int k z)).all,Old n y:=λy hy=>by
 simp only[AV.all,List.mem_singleton]at hy;subst hy;exact .int _ _
theorem zj5(h:∀e∈es,∀x∈e,Flat x):∀y∈(AV.c (.fz es)).all,Old n y:=λy hy=>by
 simp only[AV.all,List.mem_singleton]at hy;subst hy;exact .fz _ λi j hi hj=>(h _ (yaa hi) _ (yaa hj)).old _
theorem w7{l:List Val}:∀y∈(AV.c (.fz (l.map encV))).all,Old n y:=zj5 jfk
theorem weq{l:List Tok}:∀y∈(AV.c (.fz (l.map zh))).all,Old n y:=zj5 λe he x hx=>by
 obtain⟨a,_,rfl⟩:=List.mem_map.1 he;exact wgc a x hx
theorem jj5(e:List Tok)(row:List Val)(hx:e.length<=34359738368)(hr:row.length<=34359738368):Pure Tryz.prog 146 [.c (.fz (e.map zh)),.c (.fz (row.map encV))] (.tup [.agg (encV (zfk e row).1),.c (.bool (zfk e row).2)]):=by
 refine yap [51] zjv λG hS hA=>?_;clear hA;have c1:=wkx row 16 gb hr
 cases hv:jt row 16
 ·rw[hv]at c1;rw[zfk,wdj,hv];repeat' first|refine X ?_|refine yaC (c1) ?_|exact yaF|refine Y ?_ ?_<;>intro _
  exact .ret (wx rfl rfl rfl (yad _) rfl rfl) (wac z6 _)
 obtain⟨hok,hrl⟩:=wgi hv;have c2:=wc0 e row.length hx;rw[zd8 O hrl]at c2;rw[hv]at c1
 cases he:war e row.length
 ·rw[he]at c2;rw[zfk,wdj,hv,he];repeat' first|refine X ?_|refine yaC (c1) ?_|refine yaC (c2) ?_|exact yaF|refine Y ?_ ?_<;>intro _
  exact .ret (wx rfl rfl rfl (yad _) rfl rfl) (wac z6 _)
 rw[he]at c2;obtain⟨hel,hea⟩:=zbi he;have hI:zfk e row=za5 e row:=by rw[zfk,wdj,hv,he];rfl
 rw[hI];repeat' first|refine X ?_|refine yaC (c1) ?_|refine yaC (c2) ?_|exact yaF|refine Y ?_ ?_<;>intro _
 refine Go.keep [1,4,6,24,25,26] (Go.loops (I:=λm fr V=>∃(i:Nat) (k:Int) (st:List Val) (v:Nat) (junk:List (List Ce)),m=e.length-i/\i<=e.length/\k=i/\Jk 3 junk/\(st.length<=i/\Oks st/\z5 row.length st.length (e.drop i)=true/\zg9 row e []=zg9 row (e.drop i) st)/\
  fr=[(1,.c (.fz (row.map encV))),(4,.c (.ptr (G.next+0) 0 0 0)),(6,.c (vec (G.next+1) v (st.map encV) junk)),(24,.c (.fz (e.map zh))),(25,.c (.int .i64 (e.length:Int))),(26,.c (.int .i64 k))]/\
   V=E G [(0,[[.int .i64 0,.int .i64 0,.str []]]),(v,st.map encV++junk)]) ?_ _ _ _ ⟨0,_,[],0,[],rfl,Nat.zero_le _,rfl,Jk.nil,⟨Nat.zero_le _,λv hv=>(by simp at hv),hea,rfl⟩,rfl,rfl⟩)
 rintro m fr V ⟨i,k,st,v,junk,rfl,hi,hk,hj,⟨hsl,hst,haux,hev⟩,rfl,rfl⟩ hrec;clear hea he hv c1 c2 hI;by_cases hlt:i<e.length
 ·rw[yab hlt]at haux hev;obtain⟨htk,hle,haux⟩:=wc2 haux;have htr:=zbf e[i];have hz:IntKind.i64.wrap (((st.map encV).length:Int)-wg e[i])=(jao e[i] st:Int):=by
   rw[yae,jg O O,jao];omega
  have hfn:jao e[i] st<=st.length:=by rw[jao];omega
  have hfn':jao e[i] st<=(st.map encV).length:=by rw[yae];exact hfn
  have hdl:((st.drop (jao e[i] st)).length:Int)=wg e[i]:=by rw[List.length_drop,jao];omega
  have hap:=zmx e[i] (st.drop (jao e[i] st)) row htk hdl (hst.drop _);have hres:=wgh (jdt htk) (hst.drop (jao e[i] st)) hok;rw[List.map_drop]at hap;rw[zg9]at hev;generalize zz e[i] (st.drop (jao e[i] st)) row=ap at hap hres hev;obtain⟨av,ab⟩:=ap;simp only at hap hres hev;repeat' first|apply Go.seq|apply Go.skip|apply Go.region|apply Go.nil|apply Go.block|apply Go.blk|apply Go.segs|(apply Go.exit;exact rfl)|(apply Go.cond true;exact rfl)|(apply Go.cond false;exact rfl)|apply yB|apply yC|((first|apply yD|apply yE);(first|exact yF|assumption);iterate 6 exact rfl)|((first|apply yG|apply yH|apply yI);exact rfl;(first|exact yJ|exact yK rfl rfl|exact yL rfl|exact yM rfl|exact rfl|exact aL rfl rfl rfl rfl rfl|exact aS rfl rfl rfl rfl rfl rfl rfl|exact yax zh hk hlt))|((first|apply yN|apply yO|apply yP);exact rfl)|((first|apply yQ|apply yR|apply yS);(iterate 3 exact rfl);exact wkm e[i])|exact yaF|(((first|apply yT|apply yU|apply yV|apply yW);exact rfl;(first|exact .d|exact .e|exact .n|((fail_if_success exact bqt);(fail_if_success exact bqf);exact .b)))<;>intro _)
  rw[hz];generalize jao e[i] st=n at hz hfn hfn' hap hev hdl;apply Go.draw;refine Go.qkd [(0,[[.int .i64 0,.int .i64 0,.str []]]),(v,st.map encV++junk)] ?_;repeat' first|(apply Qk.nil;show Go _ _ _ _ _ _ _ _)|(apply Qk.op;exact rfl;(first|(rintro _ ⟨_,rfl⟩;exact rfl)|(rintro _ ⟨_,rfl⟩;exact jau rfl rfl rfl (yak rfl) rfl)|(rintro _ ⟨_,rfl⟩;exact zmo (k:=1) (s:=3) rfl rfl rfl hfn' rfl (λe he=>(List.mem_append.1 he).elim (lens e) λh=>(hj e h).1))))|(apply Qk.no;exact rfl)|(apply Qk.wop;exact rfl;exact rfl;(first|exact yJ|exact yL rfl|exact jm rfl rfl rfl rfl rfl rfl (yak rfl));exact⟨_,rfl⟩)
  refine Qk.lcall rfl rfl rfl hap (wmw _ _) (λm=>.same (.own (jht (k:=1) rfl jfk hfn' (yad _)) (.same .nil))) ?_;repeat' first|(apply Qk.nil;show Go _ _ _ _ _ _ _ _)|(apply Qk.op;exact rfl;(first|(rintro _ ⟨_,rfl⟩;exact rfl)|(rintro _ ⟨_,rfl⟩;exact jau rfl rfl rfl (yak rfl) rfl)))|(apply Qk.no;exact rfl)|(apply Qk.wop;exact rfl;exact rfl;(first|exact yJ|exact yL rfl|exact jm rfl rfl rfl rfl rfl rfl (yak rfl));exact⟨_,rfl⟩)
  cases ab
  ·rw[if_neg yah]at hev;have hR:za5 e row=(z6,false):=by rw[za5,hev]
   rw[hR];repeat' first|refine X ?_|exact yaF|refine Y ?_ ?_<;>intro _
   exact .ret (wx rfl rfl rfl (yad _) rfl rfl) (wac z6 _)
  ·rw[if_pos rfl]at hev;repeat' first|refine X ?_|((first|apply yG|apply yH|apply yI);exact rfl;(first|exact jau rfl rfl rfl gz rfl|exact wmn (k:=1) rfl rfl rfl hfn' rfl (λe he=>(List.mem_append.1 he).elim (lens e) λh=>(hj e h).1)))|exact yaF|refine Y ?_ ?_<;>intro _
   have hsplit:st.map encV++junk=(st.map encV).take n++((st.map encV).drop n++junk):=by rw[<-ybq,List.take_append_drop]
   have hbd:(((st.map encV).take n).length+1)*32<=140737488355328:=by rw[yasq,yae];omega
   refine Go.sapp1 (k:=1) (z:=encV av) rfl rfl rfl rfl (congrArg (λq=>some (v,q)) hsplit) (λe he=>lens e (List.mem_of_mem_take he)) (Jk.drop jak hj n) rfl hbd λv' junk' hj'=>?_;repeat' first|refine X ?_|exact yaF|refine Y ?_ ?_<;>intro _
   refine Go.freezeN (l:=[(0,[[.int .i64 0,.int .i64 0,.str []]]),(v',(st.map encV).take n++[encV av]++junk')]) (m:=[(0,[encV av])])
    (fr':=[(1,.c (.fz (row.map encV))),(4,.c (.ptr (G.next+0) 0 0 0)),(6,.c (vec (G.next+1) v' ((st.map encV).take n++[encV av]) junk')),(24,.c (.fz (e.map zh))),(25,.c (.int .i64 (e.length:Int))),(26,.c (.int .i64 (IntKind.i64.wrap (k+1))))])
    hS ?_ (yai _) (.frz rfl (.refl w7) (.frz rfl (.refl (wdt gx)) (.frz rfl (.refl (je0 gx)) (.frz rfl (.refl weq) (.frz rfl (.refl wu) (.frz rfl (.refl wu) .nil)))))) ?_
   ·intro b hb e he x hx;refine Flat.old ?_ _;rcases List.mem_cons.1 hb with rfl|hb
    ·exact jfk (l:=[z6]) e he x hx
    ·rw[List.mem_singleton.1 hb]at he;rcases List.mem_append.1 he with he|he
     ·rcases List.mem_append.1 he with he|he
      ·exact jfk e (List.mem_of_mem_take he) x hx
      ·exact jfk (l:=[av]) e he x hx
     ·exact(hj' e he).2 x hx
   have e1:(st.map encV).take n++[encV av]=(st.take n++[av]).map encV:=gx;rw[e1];refine hrec _ _ _ O ⟨i+1,_,st.take n++[av],v',junk',rfl,hlt,wb hk O,hj',⟨?_,(hst.take n).snoc (hres rfl), ?_,hev⟩,rfl,rfl⟩
   ·simp only[List.length_append,List.length_take,List.length_singleton];omega
   ·have e2:((st.take n++[av]).length:Int)=st.length+1-wg e[i]:=by
     rw[List.length_drop]at hdl;simp only[List.length_append,List.length_take,List.length_singleton];omega
    rw[e2];exact haux
 ·have hd:e.drop i=[]:=yac O;rw[hd]at haux hev;simp only[z5,beq_iff_eq]at haux;obtain⟨w,rfl⟩:∃w,st=[w]:=List.length_eq_one_iff.1 O;have hR:za5 e row=(w,true):=by rw[za5,hev];rfl
  rw[hR];repeat' first|refine X ?_|((first|apply yG|apply yH|apply yI);exact rfl;(first|exact z9 (k:=1) (n:=0) rfl rfl rfl (Nat.zero_lt_one) rfl rfl rfl))|exact yaF|refine Y ?_ ?_<;>intro _
  exact .ret (wx rfl rfl rfl (yad _) rfl rfl) (wac w _)
theorem wib(e:List Tok)(row:List Val)(hx:e.length<=34359738368)(hr:row.length<=34359738368):Pure Tryz.prog 56 [.c (.fz (e.map zh)),.c (.fz (row.map encV))] (.c (.int .i64 (jcb e row))):=by
 refine yaq [] ziu λG=>?_;have c1:=jj5 e row hx hr;have h1:=jlr e row;generalize zfk e row=q at c1 h1;obtain⟨v,b⟩:=q;simp only at c1 h1
 cases b
 ·repeat' first|refine X ?_|refine yaC (c1) ?_|exact yaF|refine Y ?_ ?_<;>intro _
  refine .ret rfl (.int ?_);rw[<-h1]
  rfl
 ·repeat' first|refine X ?_|refine yaC (c1) ?_|refine yaC (wfl v) ?_|exact yaF|refine Y ?_ ?_<;>intro _
  refine .ret rfl (.int ?_);rw[<-h1]
  rfl
theorem jlu(n:Int)(b:Bool):Fin G (.tup [.c (.int .i64 n),.c (.bool b)]) (.tup [.c (.int .i64 n),.c (.bool b)]) (E G l):=
 ⟨l,rfl,.refl λy hy=>by
  simp[AV.all,AV.all.allL]at hy;rcases hy with rfl|rfl
  ·exact .int _ _
  ·exact .bool _⟩
theorem zda(b:Bool):Pure Tryz.prog 316 [.c (.bool b)] (.c (.int .i64 (yes b))):=by
 refine yaq [] zi5 λG=>?_;repeat' first|refine X ?_|exact yaF|refine Y ?_ ?_<;>intro _
 all_goals refine .ret rfl (.int ?_)
 all_goals simp_all[yes]
theorem zic(n:Int):Pure Tryz.prog 224 [.c (.int .i64 n)] (.agg (encV (vInt n))):=by
 refine yaq [] wiz λG=>?_;repeat' first|refine X ?_|exact yaF|refine Y ?_ ?_<;>intro _
 exact .ret (ja2 rfl rfl rfl (yad _) rfl) (jnp (vInt n))
def asR(t:Int):Val:=if t=2 then z6 else vInt t
theorem wlu(t:Int):Pure Tryz.prog 317 [.c (.int .i64 t)] (.agg (encV (asR t))):=by
 refine yaq [] jjy λG=>?_;repeat' first|refine X ?_|refine yaC (zic t) ?_|exact yaF|refine Y ?_ ?_<;>intro _
 ·rename_i h;rw[asR,if_pos h];exact .ret (ja2 rfl rfl rfl (yad _) rfl) (jnp z6)
 ·rename_i h;rw[asR,if_neg h];exact .ret (ja2 rfl rfl rfl (yad _) rfl) (jnp (vInt t))
def ofT(v:Val):Int:=if v.k=0 then 2 else if v.k=1 then yes (v.n !=0)else 0
def ofB(v:Val):Bool:=decide (v.k=0)||decide (v.k=1)
theorem jic(v:Val):Pure Tryz.prog 255 [.agg (encV v)] (.tup [.c (.int .i64 (ofT v)),.c (.bool (ofB v))]):=by
 refine yaq [1] wjw λG=>?_;repeat' first|refine X ?_|((first|apply yQ|apply yR|apply yS);(iterate 3 exact rfl);exact zda _)|exact yaF|refine Y ?_ ?_<;>intro _
 ·rename_i h;rw[ofT,if_pos h,ofB,decide_eq_true h];exact .ret rfl (jlu _ _)
 ·rename_i h h1;rw[ofT,if_neg h,if_pos h1,ofB,decide_eq_true h1,Bool.or_true];exact .ret rfl (jlu _ _)
 ·rename_i h h1;rw[ofT,if_neg h,if_neg h1,ofB,decide_eq_false h,decide_eq_false h1];exact .ret rfl (jlu _ _)
theorem zk3(v w:Val):Pure Tryz.prog 358 [.agg (encV v),.agg (encV w)] (.c (.int .i64 (eq3 v w))):=by
 refine yaq [2,3] jh8 λG=>?_
 cases hk:jdj v w
 ·rw[eq3,hk];have hk2:=hk;simp only[jdj]at hk2;repeat' first|refine X ?_|((first|apply yQ|apply yR|apply yS);(iterate 3 exact rfl);exact zda _)|((first|apply Go.pcallB|apply Go.spcallB|apply Qg.pcallB);(iterate 3 exact rfl);(first|exact jam v|exact jam w);intro _ _)|exact yaF|refine Y ?_ ?_<;>intro _
  all_goals first
   |exact .ret rfl (.int rfl)
   |(exfalso;simp_all;done)
 ·rw[eq3,hk];have hk2:=hk;simp only[jdj,Bool.and_eq_true,Bool.not_eq_true',beq_eq_false_iff_ne]at hk2;obtain⟨k1,k2,k3,k4⟩:=hk2;have c1:=jam v;have c2:=jam w;rw[k1]at c1;rw[k2]at c2;repeat' first|refine X ?_|refine yaC (c1) ?_|refine yaC (c2) ?_|((first|apply yQ|apply yR|apply yS);(iterate 3 exact rfl);exact zda _)|exact yaF|refine Y ?_ ?_<;>intro _
  all_goals first
   |(refine .ret rfl (.int ?_);rw[znf];rfl)
   |(exfalso;simp_all;done)
theorem zlv(v w:Val):Pure Tryz.prog 359 [.agg (encV v),.agg (encV w)] (.c (.int .i64 (zgh v w))):=by
 refine yaq [2,3] ji7 λG=>?_
 cases hk:jdj v w
 ·rw[zgh,hk];have hk2:=hk;simp only[jdj]at hk2;repeat' first|refine X ?_|refine yaC (zhf v w) ?_|((first|apply yQ|apply yR|apply yS);(iterate 3 exact rfl);exact zda _)|((first|apply Go.pcallB|apply Go.spcallB|apply Qg.pcallB);(iterate 3 exact rfl);(first|exact jam v|exact jam w);intro _ _)|exact yaF|refine Y ?_ ?_<;>intro _
  all_goals first
   |exact .ret rfl (.int rfl)
   |(exfalso;simp_all;done)
 ·rw[zgh,hk];have hk2:=hk;simp only[jdj,Bool.and_eq_true,Bool.not_eq_true',beq_eq_false_iff_ne]at hk2;obtain⟨k1,k2,k3,k4⟩:=hk2;have c1:=jam v;have c2:=jam w;have c3:=zhf v w;rw[zj0 k1 k2]at c3;rw[k1]at c1;rw[k2]at c2;repeat' first|refine X ?_|refine yaC (c1) ?_|refine yaC (c2) ?_|refine yaC (c3) ?_|((first|apply yQ|apply yR|apply yS);(iterate 3 exact rfl);exact zda _)|exact yaF|refine Y ?_ ?_<;>intro _
  all_goals first
   |exact .ret rfl (.int rfl)
   |(exfalso;simp_all;done)
theorem zfm(t:Int):Pure Tryz.prog 379 [.c (.int .i64 t)] (.c (.bool (tru t))):=by
 refine yaq [] ji8 λG=>?_;repeat' first|refine X ?_|((first|apply yQ|apply yR|apply yS);(iterate 3 exact rfl);exact wa4 _ _ _)|exact yaF|refine Y ?_ ?_<;>intro _
 exact .ret rfl (.bool rfl)
theorem jmx(a b:Int):Pure Tryz.prog 361 [.c (.int .i64 a),.c (.int .i64 b)] (.c (.int .i64 (and3 a b))):=by
 refine yaq [] jjz λG=>?_;repeat' first|refine X ?_|((first|apply Go.pcallB|apply Go.spcallB|apply Qg.pcallB);(iterate 3 exact rfl);(first|exact zfm a|exact zfm b);intro _ _)|exact yaF|refine Y ?_ ?_<;>intro _
 all_goals refine .ret rfl (.int ?_)
 all_goals simp_all[and3]
theorem jnq(a b:Int):Pure Tryz.prog 362 [.c (.int .i64 a),.c (.int .i64 b)] (.c (.int .i64 (or3 a b))):=by
 refine yaq [] zkx λG=>?_;repeat' first|refine X ?_|((first|apply Go.pcallB|apply Go.spcallB|apply Qg.pcallB);(iterate 3 exact rfl);(first|exact zfm a|exact zfm b);intro _ _)|exact yaF|refine Y ?_ ?_<;>intro _
 all_goals refine .ret rfl (.int ?_)
 all_goals simp_all[or3]
theorem wmx(a:Int):Pure Tryz.prog 318 [.c (.int .i64 a)] (.c (.int .i64 (not3 a))):=by
 refine yaq [] wjy λG=>?_;repeat' first|refine X ?_|exact yaF|refine Y ?_ ?_<;>intro _
 all_goals refine .ret rfl (.int ?_)
 ·rename_i h;subst h;rfl
 ·rename_i h1 h;subst h;rfl
 ·rename_i h1 h2 h;subst h;rfl
 ·rename_i h1 h2 h3;have:tru a=false:=by
   cases ht:tru a
   ·rfl
   ·have:=ja5.1 ht;omega
  rw[not3,this]
  rfl
theorem zko(a b:Val)(s:Int)(hs:s=1\/s=-1)(ha:ju a=true)(hb:ju b=true):Pure Tryz.prog 360 [.agg (encV a),.agg (encV b),.c (.int .i64 s)] (.tup [.agg (encV (sumV a b s).1),.c (.bool (sumV a b s).2)]):=by
 refine yaq [3,4] wi7 λG=>?_;by_cases h1:a.k=2\/b.k=2
 ·have e:sumV a b s=(z6,false):=by simp only[sumV,if_pos h1]
  rw[e];rcases h1 with h1|h1
  ·repeat' first|refine X ?_|exact yaF|refine Y ?_ ?_<;>intro _
   all_goals first
    |exact .ret (wx rfl rfl rfl (yad _) rfl rfl) (wac z6 _)
    |(exfalso;omega)
  ·repeat' first|refine X ?_|exact yaF|refine Y ?_ ?_<;>intro _
   all_goals first
    |exact .ret (wx rfl rfl rfl (yad _) rfl rfl) (wac z6 _)
    |(exfalso;omega)
 by_cases h2:a.k=0\/b.k=0
 ·have e:sumV a b s=(z6,true):=by simp only[sumV,if_neg h1,if_pos h2]
  rw[e];rcases h2 with h2|h2
  ·repeat' first|refine X ?_|exact yaF|refine Y ?_ ?_<;>intro _
   all_goals first
    |exact .ret (wx rfl rfl rfl (yad _) rfl rfl) (wac z6 _)
    |(exfalso;omega)
  ·repeat' first|refine X ?_|exact yaF|refine Y ?_ ?_<;>intro _
   all_goals first
    |exact .ret (wx rfl rfl rfl (yad _) rfl rfl) (wac z6 _)
    |(exfalso;omega)
 have e:sumV a b s=(vInt (a.n+s*b.n),ju (vInt (a.n+s*b.n))):=by simp only[sumV,if_neg h1,if_neg h2]
 have ka:a.k=1:=by have:=jc9 ha;omega
 have kb:b.k=1:=by have:=jc9 hb;omega
 have ra:=zcj ha ka;have rb:=zcj hb kb;have hw:IntKind.i64.wrap (a.n+IntKind.i64.wrap (s*b.n))=a.n+s*b.n:=by
  rcases hs with rfl|rfl
  ·rw[jg (n:=1*b.n) O O,jg O O]
  ·rw[jg (n:=-1*b.n) O O,jg O O]
 rw[e];repeat' first|refine X ?_|((first|apply yG|apply yH|apply yI);exact rfl;(first|exact jm rfl rfl rfl rfl rfl rfl gz))|((first|apply yQ|apply yR|apply yS);(iterate 3 exact rfl);exact zic _)|refine yaC (jam (vInt (IntKind.i64.wrap (a.n+IntKind.i64.wrap (s*b.n))))) ?_|exact yaF|refine Y ?_ ?_<;>intro _
 all_goals first
  |(exfalso;omega)
  |skip
 rw[hw];exact .ret (wx rfl rfl rfl (yad _) rfl rfl) (wac (vInt _) _)
def twoR(k:Int)(a b:Val):Val×Bool:=if k=3 then(asR (eq3 a b),true)else if k=4 then(asR (zgh a b),true)else if k=9 then sumV a b 1 else if k=10 then sumV a b (-1)
 else if ofB a&&ofB b then(asR (if k=5 then and3 (ofT a) (ofT b)else or3 (ofT a) (ofT b)),true)else(z6,false)
theorem zmy(k:Int)(a b:Val)(ha:ju a=true)(hb:ju b=true):Pure Tryz.prog 319 [.c (.int .i64 k),.agg (encV a),.agg (encV b)] (.tup [.agg (encV (twoR k a b).1),.c (.bool (twoR k a b).2)]):=by
 refine yaq [4,5] ji5 λG=>?_;repeat' first|refine X ?_|refine yaC (zk3 a b) ?_|refine yaC (zlv a b) ?_|((first|apply yQ|apply yR|apply yS);(iterate 3 exact rfl);exact wlu _)|refine yaC (zko a b 1 (.inl rfl) ha hb) ?_|refine yaC (zko a b (-1) (.inr rfl) ha hb) ?_|refine yaC (jic a) ?_|refine yaC (jic b) ?_|((first|apply yQ|apply yR|apply yS);(iterate 3 exact rfl);exact jmx _ _)|((first|apply yQ|apply yR|apply yS);(iterate 3 exact rfl);exact jnq _ _)|exact yaF|refine Y ?_ ?_<;>intro _
 ·rename_i h;rw[twoR,if_pos h];exact .ret (wx rfl rfl rfl (yad _) rfl rfl) (wac _ _)
 ·rename_i h0 h;rw[twoR,if_neg h0,if_pos h];exact .ret (wx rfl rfl rfl (yad _) rfl rfl) (wac _ _)
 ·rename_i h0 h1 h;rw[twoR,if_neg h0,if_neg h1,if_pos h];exact .ret (wx rfl rfl rfl (yad _) rfl rfl) (wac _ _)
 ·rename_i h0 h1 h2 h;rw[twoR,if_neg h0,if_neg h1,if_neg h2,if_pos h];exact .ret (wx rfl rfl rfl (yad _) rfl rfl) (wac _ _)
 ·rename_i h0 h1 h2 h3 h;have h:ofB a=false:=by simpa using h
  rw[twoR,if_neg h0,if_neg h1,if_neg h2,if_neg h3,h];exact .ret (wx rfl rfl rfl (yad _) rfl rfl) (wac z6 _)
 ·rename_i h0 h1 h2 h3 h4 h;have h:ofB b=false:=by simpa using h
  rw[twoR,if_neg h0,if_neg h1,if_neg h2,if_neg h3,h,ybk];exact .ret (wx rfl rfl rfl (yad _) rfl rfl) (wac z6 _)
 ·rename_i h0 h1 h2 h3 h4 h h5;have h4:ofB a=true:=by simpa using h4
  have h:ofB b=true:=by simpa using h
  rw[twoR,if_neg h0,if_neg h1,if_neg h2,if_neg h3,h4,h,if_pos h5];exact .ret (wx rfl rfl rfl (yad _) rfl rfl) (wac _ _)
 ·rename_i h0 h1 h2 h3 h4 h h5;have h4:ofB a=true:=by simpa using h4
  have h:ofB b=true:=by simpa using h
  rw[twoR,if_neg h0,if_neg h1,if_neg h2,if_neg h3,h4,h,if_neg h5];exact .ret (wx rfl rfl rfl (yad _) rfl rfl) (wac _ _)
theorem zer{t:Int}(h0:0<=t):asV t=(asR t,true):=by
 simp only[asV,asR];split
 ·rfl
 ·rw[decide_eq_true h0]
theorem zc3{a:Val}(h:ofB a=true):zak a=ofT a/\0<=ofT a/\ofT a<=2:=by
 simp only[ofB,Bool.or_eq_true,decide_eq_true_eq]at h;simp only[zak,ofT];have:=zc2 (a.n !=0);rcases h with h|h
 ·simp[h]
 ·have hn:¬a.k=0:=O;simp only[if_neg hn,if_pos h];refine⟨?_,this.1,O⟩;by_cases h0:a.n=0<;>simp[h0,yes]
theorem wic{a:Val}(h:ofB a=false):zak a=-1:=by
 simp only[ofB,Bool.or_eq_false_iff,decide_eq_false_iff_not]at h;rw[zak,if_neg h.1,if_neg h.2]
theorem jmy{b:Int}(ha:0<=a/\a<=2)(hb:0<=b/\b<=2):0<=and3 a b:=by
 rw[and3,ja5.2 ha,ja5.2 hb];simp only[Bool.and_self,if_true];split
 ·omega
 ·split<;>omega
theorem wnq{b:Int}(ha:0<=a/\a<=2)(hb:0<=b/\b<=2):0<=or3 a b:=by
 rw[or3,ja5.2 ha,ja5.2 hb];simp only[Bool.and_self,if_true];split
 ·omega
 ·split<;>omega
theorem znr(t:Tok)(a b:Val)(row:List Val)(hk:t.kind=3\/t.kind=4\/t.kind=5\/t.kind=6\/t.kind=9\/t.kind=10):(twoR t.kind a b).2=(zz t [a,b] row).2/\((zz t [a,b] row).2=true->twoR t.kind a b=zz t [a,b] row):=by
 have h5:∀f:Int->Int->Int,(f=and3\/f=or3)->(if ofB a&&ofB b then(asR (f (ofT a) (ofT b)),true)else(z6,false)).2=(asV (f (zak a) (zak b))).2/\((asV (f (zak a) (zak b))).2=true->(if ofB a&&ofB b then(asR (f (ofT a) (ofT b)),true)else(z6,false))=asV (f (zak a) (zak b))):=by
  intro f hf
  cases h1:ofB a
  ·have h3:asV (f (zak a) (zak b))=(vInt (-1),false):=by
    rw[wic h1];rcases hf with rfl|rfl
    ·rw[and3,show tru (-1)=false from rfl];rfl
    ·rw[or3,show tru (-1)=false from rfl];rfl
   rw[h3];simp
  cases h2:ofB b
  ·have h3:asV (f (zak a) (zak b))=(vInt (-1),false):=by
    rw[wic h2];rcases hf with rfl|rfl
    ·rw[and3,show tru (-1)=false from rfl,ybk];rfl
    ·rw[or3,show tru (-1)=false from rfl,ybk];rfl
   rw[h3];simp
  obtain⟨e1,r1⟩:=zc3 h1;obtain⟨e2,r2⟩:=zc3 h2;rw[e1,e2,zer (by
   rcases hf with rfl|rfl
   ·exact jmy r1 r2
   ·exact wnq r1 r2)]
  simp
 rcases hk with h|h|h|h|h|h
 ·simp only[twoR,zz,vAt,h,List.getElem?_cons_zero,List.getElem?_cons_succ,Option.getD_some,Int.reduceEq,if_true,if_false,reduceIte];rw[zer (wja a b).1];simp
 ·simp only[twoR,zz,vAt,h,List.getElem?_cons_zero,List.getElem?_cons_succ,Option.getD_some,Int.reduceEq,if_true,if_false,reduceIte];rw[zer (jgh a b).1];simp
 ·simp only[twoR,zz,vAt,h,List.getElem?_cons_zero,List.getElem?_cons_succ,Option.getD_some,Int.reduceEq,if_true,if_false,reduceIte];exact h5 and3 (.inl rfl)
 ·simp only[twoR,zz,vAt,h,List.getElem?_cons_zero,List.getElem?_cons_succ,Option.getD_some,Int.reduceEq,if_true,if_false,reduceIte];exact h5 or3 (.inr rfl)
 ·simp only[twoR,zz,vAt,h,List.getElem?_cons_zero,List.getElem?_cons_succ,Option.getD_some,Int.reduceEq,if_true,if_false,reduceIte];simp
 ·simp only[twoR,zz,vAt,h,List.getElem?_cons_zero,List.getElem?_cons_succ,Option.getD_some,Int.reduceEq,if_true,if_false,reduceIte];simp
theorem ja1{k:IntKind}{z:Int}:∀y∈(AV.c (.int k z)).all,Old n y:=λy hy=>by
 simp only[AV.all,List.mem_singleton]at hy;subst hy;exact .int _ _
variable {b:Bool}
theorem wmy:∀y∈(AV.c (.bool b)).all,Old n y:=λy hy=>by
 simp only[AV.all,List.mem_singleton]at hy;subst hy;exact .bool _
variable {st:List Val}
theorem jnr(h:1<=st.length):st.drop (st.length-1)=[st[st.length-1]]:=by
 rw[yab O,yac O]
theorem zob(h:2<=st.length):st.drop (st.length-2)=[st[st.length-2],st[st.length-1]]:=by
 rw[yab O,show st.length-2+1=st.length-1 by omega,jnr O]
variable {junk:List (List Ce)}
theorem zb6{k N:Nat}{ys:List Val}(hl:l[k]?=some (v,ys.map encV++junk))(hN:N<=G.next+k):FrzV (E G l) N (.c (vec (G.next+k) v (ys.map encV) junk)) (.c (.fz (ys.map encV))):=
 jht (n:=0) hl jfk (yad _) hN
theorem zgj(e:List Tok)(row:List Val)(hx:e.length<=24)(hrl:row.length<=16)(hok:Oks row)(hea:z5 row.length 0 e=true):Pure Tryz.prog 254 [.c (.fz (e.map zh)),.c (.fz (row.map encV))] (.tup [.agg (encV (za5 e row).1),.c (.bool (za5 e row).2)]):=by
 refine yap [102] jh4 λG hS hA=>?_;clear hA;repeat' first|refine X ?_|exact yaF|refine Y ?_ ?_<;>intro _
 refine Go.freezeN (l:=[(0,[[.int .i64 0,.int .i64 0,.str []]])]) (m:=[(0,[])]) (fr':=[(0,.c (.fz (e.map zh))),(1,.c (.fz (row.map encV))),(4,.c (.ptr (G.next+0) 0 0 0)),(6,.c (.fz (([]:List Val).map encV))),(7,.c (.int .i64 0))])
  hS (λb hb e he x hx=>?_) (yai _) (.frz rfl (.refl weq) (.frz rfl (.refl w7) (.frz rfl (.refl (wdt gx)) (.frz rfl (zb6 (G:=G) (l:=[(0,[[.int .i64 0,.int .i64 0,.str []]]),(0,[])]) (k:=1) (v:=0) (ys:=[]) (junk:=[]) rfl (yai _)) (.frz rfl (.refl wu) .nil))))) ?_
 ·rw[List.mem_singleton.1 hb]at he;exact(jfk (l:=[z6]) e he x hx).old _
 refine Go.loops (I:=λm fr V=>∃(i:Nat) (k:Int) (st:List Val),m=e.length-i/\i<=e.length/\k=i/\(st.length<=i/\Oks st/\z5 row.length st.length (e.drop i)=true/\zg9 row e []=zg9 row (e.drop i) st)/\
  fr=[(0,.c (.fz (e.map zh))),(1,.c (.fz (row.map encV))),(4,.c (.ptr (G.next+0) 0 0 0)),(6,.c (.fz (st.map encV))),(7,.c (.int .i64 k))]/\
   V=E G [(0,[[.int .i64 0,.int .i64 0,.str []]])]) ?_ _ _ _ ⟨0,_,[],rfl,Nat.zero_le _,rfl,⟨Nat.zero_le _,λv hv=>(by simp at hv),hea,rfl⟩,rfl,rfl⟩
 rintro m fr V ⟨i,k,st,rfl,hi,hk,⟨hsl,hst,haux,hev⟩,rfl,rfl⟩ hrec;clear hea;by_cases hlt:i<e.length
 ·rw[yab hlt]at haux hev;obtain⟨htk,hle,haux⟩:=wc2 haux;have htr:=zbf e[i];have hkd:=jgi htk;have hcol:=zjb htk;have hft:jao e[i] st=st.length-(wg e[i]).toNat:=rfl;have hres:=wgh (jdt htk) (hst.drop (jao e[i] st)) hok;rw[zg9]at hev;have hsl1:st.length<=24:=O;obtain⟨ap,hap⟩:∃ap,zz e[i] (st.drop (jao e[i] st)) row=ap:=⟨_,rfl⟩;rw[hap]at hres hev;repeat' first|apply Go.seq|apply Go.skip|apply Go.region|apply Go.nil|apply Go.blk|apply Go.draw|apply Go.segs|(apply Go.exit;exact rfl)|(apply Go.cond true;exact rfl)|(apply Go.cond false;exact rfl)|apply yB|apply yC|((first|apply yG|apply yH|apply yI);exact rfl;(first|exact yJ|exact yK rfl rfl|exact yL rfl|exact yM rfl|exact rfl|exact aL rfl rfl rfl rfl rfl|exact aS rfl rfl rfl rfl rfl rfl rfl))|((first|apply yN|apply yO|apply yP);exact rfl)|exact yaF|(((first|apply yT|apply yU|apply yV|apply yW);exact rfl;(first|exact .d|exact .e|exact .n|((fail_if_success exact bqt);(fail_if_success exact bqf);exact .b)))<;>intro _)
  apply Go.block;repeat' first|apply Go.seq|apply Go.skip|apply Go.region|apply Go.nil|apply Go.blk|apply Go.draw|apply Go.segs|(apply Go.exit;exact rfl)|(apply Go.cond true;exact rfl)|(apply Go.cond false;exact rfl)|apply yB|apply yC|((first|apply yG|apply yH|apply yI);exact rfl;(first|exact yJ|exact yK rfl rfl|exact yL rfl|exact yM rfl|exact rfl|exact aL rfl rfl rfl rfl rfl|exact aS rfl rfl rfl rfl rfl rfl rfl|exact yax zh hk hlt))|((first|apply yN|apply yO|apply yP);exact rfl)|exact yaF|(((first|apply yT|apply yU|apply yV|apply yW);exact rfl;(first|exact .d|exact .e|exact .n|((fail_if_success exact bqt);(fail_if_success exact bqf);exact .b)))<;>intro _)
  apply Go.block
  refine Go.join (K':=[_]) (λfr V=>∃(av:Val) (ab:Bool),ab=ap.2/\(ab=true->av=ap.1)/\
   fr=[(0,.c (.fz (e.map zh))),(1,.c (.fz (row.map encV))),(4,.c (.ptr (G.next+0) 0 0 0)),(6,.c (.fz (st.map encV))),(7,.c (.int .i64 k)),(8,.c (.int .i64 (st.length:Int))),(9,.c (.ptr (G.next+1) 0 0 0)),(10,.c (.bool ab)),(11,.c (.int .i64 (wg e[i])))]/\
   V=E G [(0,[[.int .i64 0,.int .i64 0,.str []]]),(0,[encV av])]) ?_ ?_
  ·rintro fr V ⟨av,ab,hab,hav,rfl,rfl⟩
   cases ab
   ·rw[<-hab,if_neg yah]at hev;have hR:za5 e row=(z6,false):=by rw[za5,hev]
    rw[hR];repeat' first|refine X ?_|exact yaF|refine Y ?_ ?_<;>intro _
    exact .ret (wx rfl rfl rfl (yad _) rfl rfl) (wac z6 _)
   obtain rfl:=hav rfl;rw[<-hab,if_pos rfl]at hev;have hn:jao e[i] st<=(st.map encV).length:=by rw[yae,hft];omega
   have hz:IntKind.i64.wrap ((st.length:Int)-wg e[i])=(jao e[i] st:Int):=by rw[jg O O,hft];omega
   have hres:=hres hab.symm;have hl1:((st.take (jao e[i] st)).length:Int)=st.length-wg e[i]:=by rw[yasq,hft];omega
   generalize jao e[i] st=n at hn hz hl1 hev;repeat' first|apply Go.seq|apply Go.skip|apply Go.region|apply Go.nil|apply Go.block|apply Go.blk|apply Go.segs|(apply Go.exit;exact rfl)|(apply Go.cond true;exact rfl)|(apply Go.cond false;exact rfl)|apply yB|apply yC|((first|apply yD|apply yE);(first|exact yF|assumption);iterate 6 exact rfl)|((first|apply yG|apply yH|apply yI);exact rfl;(first|exact yJ|exact yK rfl rfl|exact yL rfl|exact yM rfl|exact rfl|exact aL rfl rfl rfl rfl rfl|exact aS rfl rfl rfl rfl rfl rfl rfl))|((first|apply yN|apply yO|apply yP);exact rfl)|exact yaF|(((first|apply yT|apply yU|apply yV|apply yW);exact rfl;(first|exact .d|exact .e|exact .n|((fail_if_success exact bqt);(fail_if_success exact bqf);exact .b)))<;>intro _)
   apply Go.draw;refine Go.qkm [(0,[[.int .i64 0,.int .i64 0,.str []]]),(0,[encV ap.1])] [] ?_;repeat' first|(apply Qk.nil;show Go _ _ _ _ _ _ _ _)|(apply Qk.op;exact rfl;(first|(rintro _ ⟨_,rfl⟩;exact rfl)|(rintro _ ⟨_,rfl⟩;exact jau rfl rfl rfl (yak rfl) rfl)|(rintro _ ⟨_,rfl⟩;exact za3 (s:=3) rfl rfl hz hn lens)))|(apply Qk.no;exact rfl)|(apply Qk.wop;exact rfl;exact rfl;(first|exact yJ|exact yL rfl|exact jm rfl rfl rfl rfl rfl rfl (yak rfl));exact⟨_,rfl⟩)
   have hb1:(([]:List (List Ce)).length+((st.map encV).take n).length)*32<=140737488355328:=by rw[yasq,yae,List.length_nil];omega
   refine Qk.app (k:=2) (v:=0) (ys:=[]) (junk:=[]) (zs:=(st.map encV).take n) rfl rfl rfl rfl rfl (λe he=>(by simp at he)) Jk.nil (λe he=>lens e (List.mem_of_mem_take he)) hb1 (λz=>⟨[z],rfl⟩) λv1 j1 hj1=>?_;repeat' first|(apply Qk.nil;show Go _ _ _ _ _ _ _ _)|(apply Qk.op;exact rfl;(first|(rintro _ ⟨_,rfl⟩;exact rfl)|(rintro _ ⟨_,rfl⟩;exact jau rfl rfl rfl (yak rfl) rfl)))|(apply Qk.no;exact rfl)|(apply Qk.wop;exact rfl;exact rfl;(first|exact yJ|exact yL rfl|exact jm rfl rfl rfl rfl rfl rfl (yak rfl));exact⟨_,rfl⟩)
   have hb2:((([]:List (List Ce))++(st.map encV).take n).length+1)*32<=140737488355328:=by rw[ybs,yasq,yae];omega
   refine Go.sapp1 (k:=2) (z:=encV ap.1) rfl rfl rfl rfl rfl (λe he=>lens e (List.mem_of_mem_take he)) hj1 rfl hb2 λv' junk' hj'=>?_;repeat' first|refine X ?_|exact yaF|refine Y ?_ ?_<;>intro _
   have e1:[]++(st.map encV).take n++[encV ap.1]=(st.take n++[ap.1]).map encV:=gx;rw[e1]
   refine Go.freezeN (l:=[(0,[[.int .i64 0,.int .i64 0,.str []]])]) (m:=[(0,[encV ap.1]),(v',(st.take n++[ap.1]).map encV++junk')])
    (fr':=[(0,.c (.fz (e.map zh))),(1,.c (.fz (row.map encV))),(4,.c (.ptr (G.next+0) 0 0 0)),(6,.c (.fz ((st.take n++[ap.1]).map encV))),(7,.c (.int .i64 (IntKind.i64.wrap (k+1))))])
    hS (λb hb e he x hx=>?_) (yai _) (.frz rfl (.refl weq) (.frz rfl (.refl w7) (.frz rfl (.refl (wdt gx)) (.frz rfl (zb6 (G:=G) (l:=[(0,[[.int .i64 0,.int .i64 0,.str []]]),(0,[encV ap.1]),(v',(st.take n++[ap.1]).map encV++junk')]) (k:=2) (v:=v') (ys:=st.take n++[ap.1]) (junk:=junk') rfl (Nat.le_succ _)) (.frz rfl (.refl wu) .nil))))) ?_
   ·rw[List.mem_singleton.1 hb]at he;exact(jfk (l:=[z6]) e he x hx).old _
   refine hrec _ _ _ O ⟨i+1,_,st.take n++[ap.1],rfl,hlt,wb hk O,⟨?_,(hst.take n).snoc hres, ?_,hev⟩,rfl,rfl⟩
   ·simp only[List.length_append,List.length_take,List.length_singleton];omega
   ·have e2:((st.take n++[ap.1]).length:Int)=st.length+1-wg e[i]:=by
     simp only[List.length_append,List.length_singleton];omega
    rw[e2];exact haux
  intro hj;rw[List.singleton_append];by_cases h1:e[i].kind=1
  ·have htk0:wg e[i]=0:=by rw[wg,if_pos (.inl h1)]
   have hc2:=hcol h1;have hcz:e[i].col=(e[i].col.toNat:Int):=O;have hcl:e[i].col.toNat<row.length:=O;have hape:ap=(row[e[i].col.toNat],true):=by rw[<-hap,zz,if_pos h1,vAt,yag hcl];rfl
   rw[htk0]at hj;repeat' first|apply Go.seq|apply Go.skip|apply Go.region|apply Go.nil|apply Go.block|apply Go.draw|apply Go.segs|(apply Go.exit;exact rfl)|(apply Go.cond true;exact rfl)|(apply Go.cond false;exact rfl)|apply yB|apply yC|((first|apply yG|apply yH|apply yI);exact rfl;(first|exact yJ|exact yK rfl rfl|exact yL rfl|exact yM rfl|exact rfl|exact aL rfl rfl rfl rfl rfl|exact aS rfl rfl rfl rfl rfl rfl rfl|exact yax zh hk hlt|exact yax encV hcz hcl))|((first|apply yN|apply yO|apply yP);exact rfl)|exact yaF|(((first|apply yT|apply yU|apply yV|apply yW);exact rfl;(first|exact .d|exact .e|exact .n|((fail_if_success exact bqt);(fail_if_success exact bqf);exact .b)))<;>intro _)
   exact Go.keep [0,1,4,6,7,8,9,10,11] (hj _ _ ⟨row[e[i].col.toNat],true,by rw[hape],λ_=>by rw[hape],rfl,rfl⟩)
  by_cases h2:e[i].kind=2
  ·have htk0:wg e[i]=0:=by rw[wg,if_pos (.inr h2)]
   have hape:ap=(e[i].v,true):=by rw[<-hap,zz,if_neg h1,if_pos h2]
   rw[htk0]at hj;repeat' first|apply Go.seq|apply Go.skip|apply Go.region|apply Go.nil|apply Go.block|apply Go.draw|apply Go.segs|(apply Go.exit;exact rfl)|(apply Go.cond true;exact rfl)|(apply Go.cond false;exact rfl)|apply yB|apply yC|((first|apply yG|apply yH|apply yI);exact rfl;(first|exact yJ|exact yK rfl rfl|exact yL rfl|exact yM rfl|exact rfl|exact aL rfl rfl rfl rfl rfl|exact aS rfl rfl rfl rfl rfl rfl rfl|exact yax zh hk hlt))|((first|apply yN|apply yO|apply yP);exact rfl)|exact yaF|(((first|apply yT|apply yU|apply yV|apply yW);exact rfl;(first|exact .d|exact .e|exact .n|((fail_if_success exact bqt);(fail_if_success exact bqf);exact .b)))<;>intro _)
   exact Go.keep [0,1,4,6,7,8,9,10,11] (hj _ _ ⟨e[i].v,true,by rw[hape],λ_=>by rw[hape],rfl,rfl⟩)
  have hn12:¬(e[i].kind=1\/e[i].kind=2):=O;by_cases h8:e[i].kind=8
  ·have htk0:wg e[i]=1:=by rw[wg,if_neg hn12,if_pos (.inr h8)]
   have hz1:IntKind.i64.wrap ((st.length:Int)-1)=((st.length-1:Nat):Int):=by rw[jg O O];omega
   have hl1:st.length-1<st.length:=O;have hf:jao e[i] st=st.length-1:=by rw[hft,htk0];rfl
   have hyr:=zc2 (st[st.length-1].k==0);have hape:ap=(asR (yes (st[st.length-1].k==0)),true):=by
    rw[<-hap,hf,jnr O,<-zer hyr.1];simp[zz,h8,vAt]
   have hv:asR (yes (st[st.length-1].k==0))=vInt (yes (st[st.length-1].k==0)):=by rw[asR,if_neg O]
   rw[htk0]at hj;repeat' first|apply Go.seq|apply Go.skip|apply Go.region|apply Go.nil|apply Go.block|apply Go.draw|apply Go.segs|(apply Go.exit;exact rfl)|(apply Go.cond true;exact rfl)|(apply Go.cond false;exact rfl)|apply yB|apply yC|((first|apply yG|apply yH|apply yI);exact rfl;(first|exact yJ|exact yK rfl rfl|exact yL rfl|exact yM rfl|exact rfl|exact aL rfl rfl rfl rfl rfl|exact aS rfl rfl rfl rfl rfl rfl rfl|exact yax zh hk hlt|exact yax encV hz1 hl1))|((first|apply yN|apply yO|apply yP);exact rfl)|((first|apply yQ|apply yR|apply yS);(iterate 3 exact rfl);(first|exact zda _|exact zic _))|exact yaF|(((first|apply yT|apply yU|apply yV|apply yW);exact rfl;(first|exact .d|exact .e|exact .n|((fail_if_success exact bqt);(fail_if_success exact bqf);exact .b)))<;>intro _)
   exact Go.keep [0,1,4,6,7,8,9,10,11] (hj _ _ ⟨vInt (yes (st[st.length-1].k==0)),true,by rw[hape],λ_=>by rw[hape,hv],rfl,rfl⟩)
  by_cases h7:e[i].kind=7
  ·have htk0:wg e[i]=1:=by rw[wg,if_neg hn12,if_pos (.inl h7)]
   have hz1:IntKind.i64.wrap ((st.length:Int)-1)=((st.length-1:Nat):Int):=by rw[jg O O];omega
   have hl1:st.length-1<st.length:=O;have hf:jao e[i] st=st.length-1:=by rw[hft,htk0];rfl
   have hape:ap=asV (not3 (zak st[st.length-1])):=by
    rw[<-hap,hf,jnr O];simp[zz,h7,vAt]
   rw[htk0]at hj;repeat' first|apply Go.seq|apply Go.skip|apply Go.region|apply Go.nil|apply Go.block|apply Go.draw|apply Go.segs|(apply Go.exit;exact rfl)|(apply Go.cond true;exact rfl)|(apply Go.cond false;exact rfl)|apply yB|apply yC|((first|apply yG|apply yH|apply yI);exact rfl;(first|exact yJ|exact yK rfl rfl|exact yL rfl|exact yM rfl|exact rfl|exact aL rfl rfl rfl rfl rfl|exact aS rfl rfl rfl rfl rfl rfl rfl|exact yax zh hk hlt|exact yax encV hz1 hl1))|((first|apply yN|apply yO|apply yP);exact rfl)|((first|apply yQ|apply yR|apply yS);(iterate 3 exact rfl);(first|exact jic st[st.length-1]|exact wmx _|exact wlu _))|exact yaF|(((first|apply yT|apply yU|apply yV|apply yW);exact rfl;(first|exact .d|exact .e|exact .n|((fail_if_success exact bqt);(fail_if_success exact bqf);exact .b)))<;>intro _)
   refine Go.keep [0,1,4,6,7,8,9,10,11] (hj _ _ ⟨asR (not3 (ofT st[st.length-1])),ofB st[st.length-1], ?_, ?_,rfl,rfl⟩)
   ·rw[hape]
    cases hb:ofB st[st.length-1]
    ·rw[wic hb];rfl
    ·obtain⟨q1,q2⟩:=zc3 hb;rw[q1,zer];rw[not3,ja5.2 q2,if_pos rfl];split<;>omega
   ·intro hb;obtain⟨q1,q2⟩:=zc3 hb;rw[hape,q1,zer];rw[not3,ja5.2 q2,if_pos rfl];split<;>omega
  have htk0:wg e[i]=2:=by rw[wg,if_neg hn12,if_neg O]
  have hz1:IntKind.i64.wrap ((st.length:Int)-1)=((st.length-1:Nat):Int):=by rw[jg O O];omega
  have hz2:IntKind.i64.wrap ((st.length:Int)-2)=((st.length-2:Nat):Int):=by rw[jg O O];omega
  have hl1:st.length-1<st.length:=O;have hl2:st.length-2<st.length:=O;have hf:jao e[i] st=st.length-2:=by rw[hft,htk0];rfl
  obtain⟨hw1,hw2⟩:=znr e[i] st[st.length-2] st[st.length-1] row O;have hap2:zz e[i] [st[st.length-2],st[st.length-1]] row=ap:=by rw[<-hap,hf,zob O]
  rw[hap2]at hw1 hw2;have ctwo:=zmy e[i].kind st[st.length-2] st[st.length-1] (hst _ (yaa _)) (hst _ (yaa _));generalize twoR e[i].kind st[st.length-2] st[st.length-1]=tw at ctwo hw1 hw2;rw[htk0]at hj;repeat' first|apply Go.seq|apply Go.skip|apply Go.region|apply Go.nil|apply Go.block|apply Go.segs|(apply Go.exit;exact rfl)|(apply Go.cond true;exact rfl)|(apply Go.cond false;exact rfl)|apply yB|apply yC|((first|apply yG|apply yH|apply yI);exact rfl;(first|exact yJ|exact yK rfl rfl|exact yL rfl|exact yM rfl|exact rfl|exact aL rfl rfl rfl rfl rfl|exact aS rfl rfl rfl rfl rfl rfl rfl|exact yax zh hk hlt))|((first|apply yN|apply yO|apply yP);exact rfl)|exact yaF|(((first|apply yT|apply yU|apply yV|apply yW);exact rfl;(first|exact .d|exact .e|exact .n|((fail_if_success exact bqt);(fail_if_success exact bqf);exact .b)))<;>intro _)
  apply Go.draw;apply Go.qs;repeat' first|(apply yA;exact rfl)|apply yC|((first|apply yD|apply yE);(first|exact yF|assumption);iterate 6 exact rfl)|((first|apply yG|apply yH|apply yI);exact rfl;(first|exact yJ|exact yK rfl rfl|exact yL rfl|exact yM rfl|exact rfl|exact aL rfl rfl rfl rfl rfl|exact aS rfl rfl rfl rfl rfl rfl rfl|exact yax zh hk hlt|exact yax encV hz2 hl2|exact yax encV hz1 hl1|exact jau rfl rfl rfl (yak rfl) rfl))|((first|apply yN|apply yO|apply yP);exact rfl)|((first|apply yQ|apply yR|apply yS);(iterate 3 exact rfl);exact ctwo)|exact yaF|(((first|apply yT|apply yU|apply yV|apply yW);exact rfl;(first|exact .d|exact .e|exact .n|((fail_if_success exact bqt);(fail_if_success exact bqf);exact .b)))<;>intro _)
  refine Go.qkm [(0,[[.int .i64 0,.int .i64 0,.str []]])] [(0,[encV z6])] ?_;repeat' first|(apply Qk.nil;show Go _ _ _ _ _ _ _ _)|(apply Qk.op;exact rfl;(first|(rintro _ ⟨_,rfl⟩;exact rfl)|(rintro _ ⟨_,rfl⟩;exact jau rfl rfl rfl (yak rfl) rfl)))|(apply Qk.no;exact rfl)|(apply Qk.wop;exact rfl;exact rfl;(first|exact yJ|exact yL rfl|exact jm rfl rfl rfl rfl rfl rfl (yak rfl));exact⟨_,rfl⟩)
  repeat' first|apply Go.seq|apply Go.skip|apply Go.region|apply Go.nil|apply Go.block|apply Go.draw|apply Go.segs|(apply Go.exit;exact rfl)|(apply Go.cond true;exact rfl)|(apply Go.cond false;exact rfl)|apply yB|apply yC|((first|apply yG|apply yH|apply yI);exact rfl;(first|exact yJ|exact yK rfl rfl|exact yL rfl|exact yM rfl|exact rfl|exact aL rfl rfl rfl rfl rfl|exact aS rfl rfl rfl rfl rfl rfl rfl))|((first|apply yN|apply yO|apply yP);exact rfl)|exact yaF|(((first|apply yT|apply yU|apply yV|apply yW);exact rfl;(first|exact .d|exact .e|exact .n|((fail_if_success exact bqt);(fail_if_success exact bqf);exact .b)))<;>intro _)
  exact Go.keep [0,1,4,6,7,8,9,10,11] (hj _ _ ⟨tw.1,tw.2,hw1,λh=>by rw[hw2 (by rw[<-hw1];exact h)],rfl,rfl⟩)
 ·have hd:e.drop i=[]:=yac O;rw[hd]at haux hev;simp only[z5,beq_iff_eq]at haux;obtain⟨w,rfl⟩:∃w,st=[w]:=List.length_eq_one_iff.1 O;have hR:za5 e row=(w,true):=by rw[za5,hev];rfl
  rw[hR];repeat' first|refine X ?_|exact yaF|refine Y ?_ ?_<;>intro _
  exact .ret (wx rfl rfl rfl (yad _) rfl rfl) (wac w _)
theorem jer(e:List Tok)(row:List Val)(hv:jt row 16=true)(he:war e row.length=true):Pure Tryz.prog 161 [.c (.fz (e.map zh)),.c (.fz (row.map encV))] (.c (.int .i64 (wc1 e row))):=by
 refine yaq [] jg1 λG=>?_;obtain⟨hok,hrl⟩:=wgi hv;obtain⟨hel,hea⟩:=zbi he;have c1:=zgj e row O O hok hea;have c2:=jic (za5 e row).1;rw[wc1];generalize za5 e row=q at c1 c2⊢;obtain⟨v,b⟩:=q;simp only at c1 c2⊢
 cases hb:ofB v
 ·rw[hb]at c2;have h1:=wic hb
  cases b
  ·repeat' first|refine X ?_|refine yaC (c1) ?_|refine yaC (c2) ?_|exact yaF|refine Y ?_ ?_<;>intro _
   exact .ret rfl (.int rfl)
  ·repeat' first|refine X ?_|refine yaC (c1) ?_|refine yaC (c2) ?_|exact yaF|refine Y ?_ ?_<;>intro _
   exact .ret rfl (.int (by rw[if_pos rfl,h1]))
 ·rw[hb]at c2;have h1:=(zc3 hb).1
  cases b
  ·repeat' first|refine X ?_|refine yaC (c1) ?_|refine yaC (c2) ?_|exact yaF|refine Y ?_ ?_<;>intro _
   exact .ret rfl (.int rfl)
  ·repeat' first|refine X ?_|refine yaC (c1) ?_|refine yaC (c2) ?_|exact yaF|refine Y ?_ ?_<;>intro _
   exact .ret rfl (.int (by rw[if_pos rfl,h1]))
structure SetS where
 col:Int
 expr:List Tok
 deriving DecidableEq
def wi(a:SetS):List Ce:=[.int .i64 a.col,.fz (a.expr.map zh)]
def wfk(N:Nat)(a:SetS):Prop:=(a.expr.length<=N/\∀x∈a.expr,bTok N x)
def zdu(a:SetS):Int->Int:=j4 [(szL zTok a.expr)]
theorem jgj(a:SetS):zcz [(szL zTok a.expr)]:=(.cons (λl h=>zac jag _ l h) .nil)
theorem wd8(a:SetS)(l:Int)(h:0<=l):zdu a l<=l:=waz (jgj a) l h
theorem zmz(a:SetS)(l:Int)(N:Nat)(h0:0<=l)(h:0<=zdu a l)(hl:l<=N):wfk N a:=by
 have hh:=wam (jgj a) l h0 h;obtain⟨q0,u0,v0,w0⟩:=hh (szL zTok a.expr) gx;exact(waq jag zgd u0 w0 O)
theorem jlv(a:SetS)(left:Int)(hb:wfk 1125899906842624 a)(h0:0<=left)(h1:left<=34359738368):Pure Tryz.prog 156 [.agg (wi a),.c (.int .i64 left)] (.c (.int .i64 (zdu a left))):=by
 refine yaq [2] wiv λG=>?_;repeat' first|refine X ?_|fail
 refine .pcall rfl rfl rfl (jcz a.expr left hb.1 hb.2 O O) ?_;have y1:=zac jag a.expr left O;generalize e1:szL zTok a.expr left=l1 at y1⊢;repeat' first|refine X ?_|exact yaF|refine Y ?_ ?_<;>intro _
 ·refine .ret rfl (.int ?_);rename_i h;simp only[zdu,j4,e1,if_pos h]
 rename_i g1;refine .ret rfl (.int ?_);simp only[zdu,j4,e1,if_neg g1]
theorem jk3(xs:List SetS)(left:Int)(hx:xs.length<=1125899906842624)(hv:∀e∈xs,wfk 1125899906842624 e)(h0:0<=left)(h1:left<=34359738368):Pure Tryz.prog 63 [.c (.fz (xs.map wi)),.c (.int .i64 left)] (.c (.int .i64 (szL zdu xs left))):=
 wco mixed ze7 wi zdu xs left hx h0 h1 (λ_=>rfl) wd8 λa ha l h2 h3=>jlv a l (hv a ha) h2 O
theorem wlv(a:SetS)(hb:wfk 34359738368 a)(G:wa):Ok Tryz.prog 174 [.agg (wi a)] G (NewL G (wi a)):=by
 refine Ok.run mixed wf1 gz λhS hA=>?_;clear hS hA;repeat' first|refine X ?_|exact yaF|refine Y ?_ ?_<;>intro _
 refine Go.call _ rfl rfl rfl (wcz a.expr hb.1 hb.2 _) ?_;rintro r G0 ⟨x0,m0,rfl,rfl,t0,h0⟩;rw[E_E]at h0⊢;have t0:=zar t0;have h0:=h0.new2;repeat' first|refine X ?_|exact yaF|refine Y ?_ ?_<;>intro _
 have hL:HasL (E G ((0,[[.int .i64 a.col,x0]])::(0,[[.int .i64 a.col,x0]])::([]++m0))) (λa=>G.next+2<=a/\a<G.next+2+([]++m0).length) (wi a) [.int .i64 a.col,x0]:=by
  refine HasL.mono ?_ (HasL.skip (.int _ _) (HasL.two (h0 _ _) (HasL.nil (S:=λa=>a<0)) (λa ha hb=>by(try dsimp only at ha hb);(try simp only[List.append_eq,List.length_append,List.length_nil,List.nil_append]at ha hb);omega)));intro a ha
  (try dsimp only at ha)
  (try simp only[List.append_eq,List.length_append,List.length_nil,List.nil_append]at ha⊢)
  omega
 have hT:=hL.tidy (n:=G.next) λa ha=>by have:=ha.1;omega
 have hM:wa0 G.next ([]++m0):=(wae (λb hb=>by simp at hb) t0);have hN:NewL G (wi a) (.agg [.int .i64 a.col,x0]) (E G ((0,[[.int .i64 a.col,x0]])::(0,[[.int .i64 a.col,x0]])::([]++m0))):=by
  refine⟨_,_,rfl,rfl,.one hT (.one hT hM),hL.mono ?_⟩;intro a ha;have h9:=ha.1;have h8:=ha.2
  (try simp only[z4,List.length_cons,List.append_eq,List.length_append,List.length_nil,List.nil_append]at h8⊢)
  constructor<;>omega
 exact .ret (ja2 rfl rfl rfl gz rfl) hN
theorem wk3(xs:List SetS)(hx:xs.length<=34359738368)(hv:∀e∈xs,wfk 34359738368 e)(G:wa):Ok Tryz.prog 78 [.c (.fz (xs.map wi))] G (New G (.fz (xs.map wi))):=
 jco mixed we8 wi xs hx gb rfl (λ_=>rfl) (by intro x hx;simp only[List.mem_cons,List.not_mem_nil,or_false]at hx;rcases hx with rfl|rfl<;>constructor) (λa ha G=>wlv a (hv a ha) G) G
theorem jmz(a b:SetS):(a==b)=(a.col==b.col&&a.expr==b.expr):=by
 obtain⟨a0,a1⟩:=a;obtain⟨b0,b1⟩:=b;rw[ybc];simp[and_assoc]
theorem zlw(a b:SetS)(hb:wfk 34359738368 a):Pure Tryz.prog 200 [.agg (wi a),.agg (wi b)] (.c (.bool (a==b))):=by
 refine yaq [2,3] jiz λG=>?_;have hq:=jmz a b;repeat' first|refine X ?_|((first|apply Go.pcallB|apply Go.spcallB|apply Qg.pcallB);(iterate 3 exact rfl);exact zc0 a.expr b.expr hb.1 hb.2;intro _ _)|exact yaF|refine Y ?_ ?_<;>intro _
 all_goals refine .ret rfl (.bool ?_)
 all_goals rw[hq]
 all_goals clear hq hb
 all_goals simp_all
theorem zk4(xs ys:List SetS)(hx:xs.length<=34359738368)(hv:∀e∈xs,wfk 34359738368 e):Pure Tryz.prog 92 [.c (.fz (xs.map wi)),.c (.fz (ys.map wi))] (.c (.bool (xs==ys))):=
 jcu mixed zfa wi xs ys hx (λ_=>rfl) λa ha b=>zlw a b (hv a ha)
structure RowD where
 id:Int
 vals:List Val
 deriving DecidableEq
def jc(a:RowD):List Ce:=[.int .i64 a.id,.fz (a.vals.map encV)]
def wer(N:Nat)(a:RowD):Prop:=(a.vals.length<=N/\∀x∈a.vals,bV N x)
def zcc(a:RowD):Int->Int:=j4 [(szL szV a.vals)]
theorem wgj(a:RowD):zcz [(szL szV a.vals)]:=(.cons (λl h=>zac wcp _ l h) .nil)
theorem jbp(a:RowD)(l:Int)(h:0<=l):zcc a l<=l:=waz (wgj a) l h
theorem jko(a:RowD)(l:Int)(N:Nat)(h0:0<=l)(h:0<=zcc a l)(hl:l<=N):wer N a:=by
 have hh:=wam (wgj a) l h0 h;obtain⟨q0,u0,v0,w0⟩:=hh (szL szV a.vals) gx;exact(waq wcp (λ_ _ _ _ h hl=>znm h hl) u0 w0 O)
theorem jlw(a:RowD)(left:Int)(hb:wer 1125899906842624 a)(h0:0<=left)(h1:left<=34359738368):Pure Tryz.prog 154 [.agg (jc a),.c (.int .i64 left)] (.c (.int .i64 (zcc a left))):=by
 refine yaq [2] ziv λG=>?_;repeat' first|refine X ?_|fail
 refine .pcall rfl rfl rfl (jll a.vals left hb.1 hb.2 O O) ?_;have y1:=zac wcp a.vals left O;generalize e1:szL szV a.vals left=l1 at y1⊢;repeat' first|refine X ?_|exact yaF|refine Y ?_ ?_<;>intro _
 ·refine .ret rfl (.int ?_);rename_i h;simp only[zcc,j4,e1,if_pos h]
 rename_i g1;refine .ret rfl (.int ?_);simp only[zcc,j4,e1,if_neg g1]
theorem whh(xs:List RowD)(left:Int)(hx:xs.length<=1125899906842624)(hv:∀e∈xs,wer 1125899906842624 e)(h0:0<=left)(h1:left<=34359738368):Pure Tryz.prog 61 [.c (.fz (xs.map jc)),.c (.int .i64 left)] (.c (.int .i64 (szL zcc xs left))):=
 wco mixed je6 jc zcc xs left hx h0 h1 (λ_=>rfl) jbp λa ha l h2 h3=>jlw a l (hv a ha) h2 O
theorem wlw(a:RowD)(hb:wer 34359738368 a)(G:wa):Ok Tryz.prog 172 [.agg (jc a)] G (NewL G (jc a)):=by
 refine Ok.run mixed zf1 gz λhS hA=>?_;clear hS hA;repeat' first|refine X ?_|exact yaF|refine Y ?_ ?_<;>intro _
 refine Go.call _ rfl rfl rfl (zlm a.vals hb.1  _) ?_;rintro r G0 ⟨x0,m0,rfl,rfl,t0,h0⟩;rw[E_E]at h0⊢;have t0:=zar t0;have h0:=h0.new2;repeat' first|refine X ?_|exact yaF|refine Y ?_ ?_<;>intro _
 have hL:HasL (E G ((0,[[.int .i64 a.id,x0]])::(0,[[.int .i64 a.id,x0]])::([]++m0))) (λa=>G.next+2<=a/\a<G.next+2+([]++m0).length) (jc a) [.int .i64 a.id,x0]:=by
  refine HasL.mono ?_ (HasL.skip (.int _ _) (HasL.two (h0 _ _) (HasL.nil (S:=λa=>a<0)) (λa ha hb=>by(try dsimp only at ha hb);(try simp only[List.append_eq,List.length_append,List.length_nil,List.nil_append]at ha hb);omega)));intro a ha
  (try dsimp only at ha)
  (try simp only[List.append_eq,List.length_append,List.length_nil,List.nil_append]at ha⊢)
  omega
 have hT:=hL.tidy (n:=G.next) λa ha=>by have:=ha.1;omega
 have hM:wa0 G.next ([]++m0):=(wae (λb hb=>by simp at hb) t0);have hN:NewL G (jc a) (.agg [.int .i64 a.id,x0]) (E G ((0,[[.int .i64 a.id,x0]])::(0,[[.int .i64 a.id,x0]])::([]++m0))):=by
  refine⟨_,_,rfl,rfl,.one hT (.one hT hM),hL.mono ?_⟩;intro a ha;have h9:=ha.1;have h8:=ha.2
  (try simp only[z4,List.length_cons,List.append_eq,List.length_append,List.length_nil,List.nil_append]at h8⊢)
  constructor<;>omega
 exact .ret (ja2 rfl rfl rfl gz rfl) hN
theorem zhi(xs:List RowD)(hx:xs.length<=34359738368)(hv:∀e∈xs,wer 34359738368 e)(G:wa):Ok Tryz.prog 76 [.c (.fz (xs.map jc))] G (New G (.fz (xs.map jc))):=
 jco mixed ze8 jc xs hx gb rfl (λ_=>rfl) (by intro x hx;simp only[List.mem_cons,List.not_mem_nil,or_false]at hx;rcases hx with rfl|rfl<;>constructor) (λa ha G=>wlw a (hv a ha) G) G
theorem wmz(a b:RowD):(a==b)=(a.id==b.id&&a.vals==b.vals):=by
 obtain⟨a0,a1⟩:=a;obtain⟨b0,b1⟩:=b;rw[ybc];simp[and_assoc]
theorem zlx(a b:RowD)(hb:wer 34359738368 a):Pure Tryz.prog 198 [.agg (jc a),.agg (jc b)] (.c (.bool (a==b))):=by
 refine yaq [2,3] wiy λG=>?_;have hq:=wmz a b;repeat' first|refine X ?_|((first|apply Go.pcallB|apply Go.spcallB|apply Qg.pcallB);(iterate 3 exact rfl);exact zll a.vals b.vals hb.1;intro _ _)|exact yaF|refine Y ?_ ?_<;>intro _
 all_goals refine .ret rfl (.bool ?_)
 all_goals rw[hq]
 all_goals clear hq hb
 all_goals simp_all
theorem jhi(xs ys:List RowD)(hx:xs.length<=34359738368)(hv:∀e∈xs,wer 34359738368 e):Pure Tryz.prog 90 [.c (.fz (xs.map jc)),.c (.fz (ys.map jc))] (.c (.bool (xs==ys))):=
 jcu mixed je9 jc xs ys hx (λ_=>rfl) λa ha b=>zlx a b (hv a ha)
structure Stmt where
 kind:Int
 table:List UInt8
 rows:List RowD
 wher:List Tok
 sets:List SetS
 policy:Int
 deriving DecidableEq
def zi(a:Stmt):List Ce:=[.int .i64 a.kind,.str a.table,.fz (a.rows.map jc),.fz (a.wher.map zh),.fz (a.sets.map wi),.int .i64 a.policy]
def zes(N:Nat)(a:Stmt):Prop:=a.table.length<=N/\(a.rows.length<=N/\∀x∈a.rows,wer N x)/\(a.wher.length<=N/\∀x∈a.wher,bTok N x)/\(a.sets.length<=N/\∀x∈a.sets,wfk N x)
def zd9(a:Stmt):Int->Int:=j4 [(λl=>l-a.table.length),(szL zcc a.rows),(szL zTok a.wher),(szL zdu a.sets)]
theorem zgk(a:Stmt):zcz [(λl=>l-a.table.length),(szL zcc a.rows),(szL zTok a.wher),(szL zdu a.sets)]:=(.cons (zc9 _) (.cons (λl h=>zac jbp _ l h) (.cons (λl h=>zac jag _ l h) (.cons (λl h=>zac wd8 _ l h) .nil))))
theorem zm0(a:Stmt)(l:Int)(h:0<=l):zd9 a l<=l:=waz (zgk a) l h
theorem jm0(a:Stmt)(l:Int)(N:Nat)(h0:0<=l)(h:0<=zd9 a l)(hl:l<=N):zes N a:=by
 have hh:=wam (zgk a) l h0 h;obtain⟨q0,u0,v0,w0⟩:=hh (λl=>l-a.table.length) gx;obtain⟨q1,u1,v1,w1⟩:=hh (szL zcc a.rows) gx;obtain⟨q2,u2,v2,w2⟩:=hh (szL zTok a.wher) gx;obtain⟨q3,u3,v3,w3⟩:=hh (szL zdu a.sets) gx;exact⟨(by(try simp only at w0);omega),(waq jbp jko u1 w1 O),(waq jag zgd u2 w2 O),(waq wd8 zmz u3 w3 O)⟩
theorem jlx(a:Stmt)(left:Int)(hb:zes 1125899906842624 a)(h0:0<=left)(h1:left<=34359738368):Pure Tryz.prog 14 [.agg (zi a),.c (.int .i64 left)] (.c (.int .i64 (zd9 a left))):=by
 refine yaq [2] wht λG=>?_;have w1:0<=left->IntKind.i64.wrap (left-a.table.length)=left-a.table.length:=λh=>jg (by have:a.table.length<=1125899906842624:=hb.1;omega) O;repeat' first|refine X ?_|exact yaF|refine Y ?_ ?_<;>intro _
 ·refine .ret rfl (.int ?_);rename_i h;have v1:=w1 O;simp only[v1]at h;simp only[zd9,j4,if_pos h]
 rename_i g1;have v1:=w1 O;simp only[v1]at g1⊢;obtain⟨l1,e1⟩:∃q,left-(a.table.length:Int)=q:=⟨_,rfl⟩;rw[e1]at g1⊢;refine .pcall rfl rfl rfl (whh a.rows l1 hb.2.1.1 hb.2.1.2 O O) ?_;have y2:=zac jbp a.rows l1 O;generalize e2:szL zcc a.rows l1=l2 at y2⊢;repeat' first|refine X ?_|exact yaF|refine Y ?_ ?_<;>intro _
 ·refine .ret rfl (.int ?_);rename_i h;simp only[zd9,j4,e1,if_neg g1,e2,if_pos h]
 rename_i g2;refine .pcall rfl rfl rfl (jcz a.wher l2 hb.2.2.1.1 hb.2.2.1.2 O O) ?_;have y3:=zac jag a.wher l2 O;generalize e3:szL zTok a.wher l2=l3 at y3⊢;repeat' first|refine X ?_|exact yaF|refine Y ?_ ?_<;>intro _
 ·refine .ret rfl (.int ?_);rename_i h;simp only[zd9,j4,e1,if_neg g1,e2,if_neg g2,e3,if_pos h]
 rename_i g3;refine .pcall rfl rfl rfl (jk3 a.sets l3 hb.2.2.2.1 hb.2.2.2.2 O O) ?_;have y4:=zac wd8 a.sets l3 O;generalize e4:szL zdu a.sets l3=l4 at y4⊢;repeat' first|refine X ?_|exact yaF|refine Y ?_ ?_<;>intro _
 ·refine .ret rfl (.int ?_);rename_i h;simp only[zd9,j4,e1,if_neg g1,e2,if_neg g2,e3,if_neg g3,e4,if_pos h]
 rename_i g4;refine .ret rfl (.int ?_);simp only[zd9,j4,e1,if_neg g1,e2,if_neg g2,e3,if_neg g3,e4,if_neg g4]
theorem jgk(a:Stmt)(hb:zes 34359738368 a)(G:wa):Ok Tryz.prog 19 [.agg (zi a)] G (NewL G (zi a)):=by
 refine Ok.run mixed we4 gz λhS hA=>?_;clear hS hA;repeat' first|refine X ?_|exact yaF|refine Y ?_ ?_<;>intro _
 refine Go.call _ rfl rfl rfl (zhi a.rows hb.2.1.1 hb.2.1.2 _) ?_;rintro r G0 ⟨x0,m0,rfl,rfl,t0,h0⟩;rw[E_E]at h0⊢;have t0:=zar t0;have h0:=h0.new2;repeat' first|refine X ?_|exact yaF|refine Y ?_ ?_<;>intro _
 refine Go.call _ rfl rfl rfl (wcz a.wher hb.2.2.1.1 hb.2.2.1.2 _) ?_;rintro r G1 ⟨x1,m1,rfl,rfl,t1,h1⟩;rw[E_E]at h1⊢;have t1:=zar t1;have h1:=h1.new2;have h0:=Has.more h0 (λa ha=>by have h9:=ha.1;have h8:=ha.2;simp only[List.append_eq,List.length_nil,List.length_append,List.nil_append]at h9 h8⊢;omega) m1;repeat' first|refine X ?_|exact yaF|refine Y ?_ ?_<;>intro _
 refine Go.call _ rfl rfl rfl (wk3 a.sets hb.2.2.2.1 hb.2.2.2.2 _) ?_;rintro r G2 ⟨x2,m2,rfl,rfl,t2,h2⟩;rw[E_E]at h2⊢;have t2:=zar t2;have h2:=h2.new2;have h0:=Has.more h0 (λa ha=>by have h9:=ha.1;have h8:=ha.2;simp only[List.append_eq,List.length_nil,List.length_append,List.nil_append]at h9 h8⊢;omega) m2;have h1:=Has.more h1 (λa ha=>by have h9:=ha.1;have h8:=ha.2;simp only[List.append_eq,List.length_nil,List.length_append,List.nil_append]at h9 h8⊢;omega) m2;repeat' first|refine X ?_|exact yaF|refine Y ?_ ?_<;>intro _
 have hL:HasL (E G ((0,[[.int .i64 a.kind,.str a.table,x0,x1,x2,.int .i64 a.policy]])::(0,[[.int .i64 a.kind,.str a.table,x0,x1,x2,.int .i64 a.policy]])::([]++m0++m1++m2))) (λa=>G.next+2<=a/\a<G.next+2+([]++m0++m1++m2).length) (zi a) [.int .i64 a.kind,.str a.table,x0,x1,x2,.int .i64 a.policy]:=by
  refine HasL.mono ?_ (HasL.skip (.int _ _) (HasL.skip (.str _) (HasL.two (h0 _ _) (HasL.two (h1 _ _) (HasL.two (h2 _ _) (HasL.skip (.int _ _) (HasL.nil (S:=λa=>a<0))) (λa ha hb=>by(try dsimp only at ha hb);(try simp only[List.append_eq,List.length_append,List.length_nil,List.nil_append]at ha hb);omega)) (λa ha hb=>by(try dsimp only at ha hb);(try simp only[List.append_eq,List.length_append,List.length_nil,List.nil_append]at ha hb);omega)) (λa ha hb=>by(try dsimp only at ha hb);(try simp only[List.append_eq,List.length_append,List.length_nil,List.nil_append]at ha hb);omega))));intro a ha
  (try dsimp only at ha)
  (try simp only[List.append_eq,List.length_append,List.length_nil,List.nil_append]at ha⊢)
  omega
 have hT:=hL.tidy (n:=G.next) λa ha=>by have:=ha.1;omega
 have hM:wa0 G.next ([]++m0++m1++m2):=(wae (wae (wae (λb hb=>by simp at hb) t0) t1) t2);have hN:NewL G (zi a) (.agg [.int .i64 a.kind,.str a.table,x0,x1,x2,.int .i64 a.policy]) (E G ((0,[[.int .i64 a.kind,.str a.table,x0,x1,x2,.int .i64 a.policy]])::(0,[[.int .i64 a.kind,.str a.table,x0,x1,x2,.int .i64 a.policy]])::([]++m0++m1++m2))):=by
  refine⟨_,_,rfl,rfl,.one hT (.one hT hM),hL.mono ?_⟩;intro a ha;have h9:=ha.1;have h8:=ha.2
  (try simp only[z4,List.length_cons,List.append_eq,List.length_append,List.length_nil,List.nil_append]at h8⊢)
  constructor<;>omega
 exact .ret (ja2 rfl rfl rfl gz rfl) hN
theorem wm0(a b:Stmt):(a==b)=(a.kind==b.kind&&a.table==b.table&&a.rows==b.rows&&a.wher==b.wher&&a.sets==b.sets&&a.policy==b.policy):=by
 obtain⟨a0,a1,a2,a3,a4,a5⟩:=a;obtain⟨b0,b1,b2,b3,b4,b5⟩:=b;rw[ybc];simp[and_assoc]
theorem jjb(a b:Stmt)(hb:zes 34359738368 a):Pure Tryz.prog 24 [.agg (zi a),.agg (zi b)] (.c (.bool (a==b))):=by
 refine yaq [2,3] jhu λG=>?_;have hq:=wm0 a b;repeat' first|refine X ?_|((first|apply Go.pcallB|apply Go.spcallB|apply Qg.pcallB);(iterate 3 exact rfl);(first|exact jhi a.rows b.rows hb.2.1.1 hb.2.1.2|exact zc0 a.wher b.wher hb.2.2.1.1 hb.2.2.1.2|exact zk4 a.sets b.sets hb.2.2.2.1 hb.2.2.2.2);intro _ _)|exact yaF|refine Y ?_ ?_<;>intro _
 all_goals refine .ret rfl (.bool ?_)
 all_goals rw[hq]
 all_goals clear hq hb
 all_goals simp_all
theorem wlx{l:List Tok}:∀e∈l.map zh,∀x∈e,Flat x:=λe he x hx=>by
 obtain⟨a,_,rfl⟩:=List.mem_map.1 he;exact wgc a x hx
theorem Go.meet{P:Program}{n0 nt:Nat}{rets:List RV}{R:AV->wa->Prop}{K K':List AK}(I:Fr->wa->Prop)(h2:∀K,(∀fr G,I fr G->Go P n0 nt rets R K fr G)->Go P n0 nt rets R (K'++K) fr G)(h1:∀fr G,I fr G->Go P n0 nt rets R K fr G):Go P n0 nt rets R (K'++K) fr G:=h2 K h1
def OldL(n:Nat)(ys:List (List Ce)):Prop:=∀e∈ys,∀c∈e,Old n c
variable {ys:List (List Ce)}
theorem jcc(h:∀e∈ys,∀x∈e,Flat x):OldL n ys:=λe he c hc=>(h e he c hc).old _
theorem zae(h:OldL n ys):Old n (.fz ys):=.fz _ λi j hi hj=>h _ (yaa hi) _ (yaa hj)
theorem wnr(l:List Col):OldL n (l.map ji):=jcc λe he x hx=>by
 obtain⟨a,_,rfl⟩:=List.mem_map.1 he;exact jia a x hx
theorem wj5(l:List Int):OldL n (l.map encI):=jcc λe he x hx=>(wmp l e he).2 x hx
theorem zm1(l:List Uniq):OldL n (l.map jo):=λe he c hc=>by
 obtain⟨a,_,rfl⟩:=List.mem_map.1 he;simp only[jo,List.mem_cons,List.not_mem_nil,or_false]at hc;subst hc;exact zae (wj5 _)
theorem zns(l:List Chk):OldL n (l.map zx):=λe he c hc=>by
 obtain⟨a,_,rfl⟩:=List.mem_map.1 he;simp only[zx,List.mem_cons,List.not_mem_nil,or_false]at hc;subst hc;exact zae (jcc wlx)
theorem jn6(l:List Fk):OldL n (l.map j3):=λe he c hc=>by
 obtain⟨a,_,rfl⟩:=List.mem_map.1 he;simp only[j3,List.mem_cons,List.not_mem_nil,or_false]at hc;rcases hc with rfl|rfl|rfl|rfl|rfl
 ·exact zae (wj5 _)
 all_goals constructor
theorem jb6{α:Type}{p:α->Bool}:∀{l:List α} {i:Int},0<=i->idxA p l i=-1\/∃n:Nat,∃h:n<l.length,idxA p l i=i+n/\p l[n]=true
 |[],i,h=>.inl rfl
 |a::r,i,h=>by
  simp only[idxA];split
  ·exact .inr ⟨0,gx,gx,by assumption⟩
  ·rcases jb6 (p:=p) (l:=r) (i:=i+1) O with h1|⟨n,hn,h1,h2⟩
   ·exact .inl h1
   ·exact .inr ⟨n+1,by simpa using hn,O,by simpa using h2⟩
theorem zj6(t:zd)(s:List UInt8):Pure Tryz.prog 133 [.agg (ja t),.c (.fp [.str s])] (.c (.bool (t.name==s))):=by
 refine yaq [2] wfa λG=>?_;repeat' first|refine X ?_|exact yaF|refine Y ?_ ?_<;>intro _
 all_goals refine .ret rfl (.bool ?_)
 all_goals simp_all
theorem zav(l:List zd)(s:List UInt8)(hx:l.length<=34359738368):Pure Tryz.prog 48 [.c (.fz (l.map ja)),.c (.str s)] (.c (.int .i64 (idxA (λt=>t.name==s) l 0))):=by
 refine yaq [3] zgy λG=>?_;repeat' first|refine X ?_|((first|apply yQ|apply yR|apply yS);(iterate 3 exact rfl);exact wbm mixed zaq ja (λt=>.agg (ja t)) (λ_=>rfl) (λ_=>rfl) l (λt=>t.name==s) _ [] [.fp [.str s]] hx (λj hj _=>zj6 _ _))|exact yaF|refine Y ?_ ?_<;>intro _
 exact .ret rfl (.int rfl)
def zdk(t:zd)(c:Int):Int:=match t.cols[c.toNat]? with|some x=>x.kind|none=>0
def wbl(u t:zd):List Int->List Int->Bool
 |a::r,c::q=>zdk u a==zdk t c&&wbl u t r q
 |_,_=>true
def zid(u t:zd)(f:Fk):Bool:=decide (u.key.length=f.cols.length)&&wbl u t u.key f.cols
def metF(s:List zd)(t:zd)(f:Fk):Bool:=s.any (λu=>u.name==f.table)&&(match s[(idxA (λu=>u.name==f.table) s 0).toNat]? with|some u=>zid u t f|none=>false)
variable {c:Int}
theorem jbi(h:c=n)(hn:n<t.cols.length):zdk t c=t.cols[n].kind:=by
 simp[zdk,h,hn]
variable {s:List zd}{f:Fk}
theorem jj6(h:idxA (λu=>u.name==f.table) s 0=-1):metF s t f=false:=by
 have:=wb3 (p:=λu:zd=>u.name==f.table) (l:=s);rw[h]at this;rw[metF,<-this]
 rfl
theorem jid(h:idxA (λu=>u.name==f.table) s 0=n)(hn:n<s.length):metF s t f=zid s[n] t f:=by
 have:=wb3 (p:=λu:zd=>u.name==f.table) (l:=s);rw[h]at this;rw[metF,<-this,h,decide_eq_true O];simp[hn]
theorem jm1(s:List zd)(t:zd)(f:Fk)(hx:s.length<=34359738368)(hs:∀u∈s,u.key.length<=34359738368/\∀c∈u.key,0<=c/\c<u.cols.length)(hf0:f.cols.length<=34359738368)(hf:∀c∈f.cols,0<=c/\c<t.cols.length):Pure Tryz.prog 274 [.c (.fz (s.map ja)),.agg (ja t),.agg (j3 f)] (.c (.bool (metF s t f))):=by
 refine yaq [4,5] wi1 λG=>?_;repeat' first|refine X ?_|fail
 refine .pcall rfl rfl rfl (zav s f.table hx) ?_;rcases jb6 (p:=λu:zd=>u.name==f.table) (l:=s) (i:=0) (yaxq _)with hq|⟨n,hn,hq,hp⟩
 ·have hm:=jj6 (t:=t) hq;rw[hq];repeat' first|refine X ?_|exact yaF|refine Y ?_ ?_<;>intro _
  exact .ret rfl (.bool hm.symm)
 rw[ybw]at hq;have hm:=jid (t:=t) hq hn;have hsn:=hs _ (yaa hn);rw[hq];have hnz:¬((n:Int)<0):=O;repeat' first|refine X ?_|((first|apply yG|apply yH|apply yI);exact rfl;(first|exact yax ja rfl hn))|exact yaF|refine Y ?_ ?_<;>intro _
 ·refine .ret rfl (.bool ?_);rename_i h;rw[hm,zid,decide_eq_false O]
  rfl
 rename_i hlen
 refine Go.keep [0,4,7,29,30,31] (Go.loops (I:=λm fr V=>∃i:Nat,∃k:Int,m=f.cols.length-i/\i<=f.cols.length/\k=i/\wbl s[n] t s[n].key f.cols=wbl s[n] t (s[n].key.drop i) (f.cols.drop i)/\
  fr=[(0,.c (.fz (s.map ja))),(4,.c (.fp (ja t))),(7,.c (.int .i64 (n:Int))),(29,.c (.fz (f.cols.map encI))),(30,.c (.int .i64 (f.cols.length:Int))),(31,.c (.int .i64 k))]/\V=E G []) ?_ _ _ _ ⟨0,_,rfl,yad _,rfl,rfl,rfl,rfl⟩)
 rintro m fr V ⟨i,k,rfl,hi,hk,hsl,rfl,rfl⟩ hrec;by_cases hlt:i<f.cols.length
 ·have hlt2:i<s[n].key.length:=O;have h1:=hsn.2 _ (yaa hlt2);have h2:=hf _ (yaa hlt);obtain⟨a,ha⟩:∃a:Nat,s[n].key[i]=a:=⟨s[n].key[i].toNat,O⟩;obtain⟨c,hc⟩:∃c:Nat,f.cols[i]=c:=⟨f.cols[i].toNat,O⟩;have ha2:a<s[n].cols.length:=O;have hc2:c<t.cols.length:=O;have e1:=jbi ha ha2;have e2:=jbi hc hc2;have hstep:wbl s[n] t s[n].key f.cols=(s[n].cols[a].kind==t.cols[c].kind&&wbl s[n] t (s[n].key.drop (i+1)) (f.cols.drop (i+1))):=by
   rw[hsl,yab hlt,yab hlt2,wbl,e1,e2]
  repeat' first|refine X ?_|((first|apply yG|apply yH|apply yI);exact rfl;(first|exact yax encI hk hlt|exact yax ja rfl hn|exact yax encI hk hlt2|exact yax ji ha ha2|exact yax ji hc hc2))|exact yaF|refine Y ?_ ?_<;>intro _
  ·refine .ret rfl (.bool ?_);rename_i h;rw[hm,zid,hstep,beq_eq_false_iff_ne.2 h];simp
  ·rename_i h;refine Go.keep [0,4,7,29,30,31] (hrec _ _ _ O ⟨i+1,_,rfl,hlt,wb hk O, ?_,rfl,rfl⟩);rw[hstep,h];simp
 ·repeat' first|refine X ?_|exact yaF|refine Y ?_ ?_<;>intro _
  refine .ret rfl (.bool ?_);rw[hm,zid,hsl,yac O,decide_eq_true O]
  cases s[n].key.drop i<;>rfl
def z7:List zd->List zd->Bool
 |_,[]=>true
 |pre,t::r=>zao t&& !(pre.any λu=>u.name==t.name)&&z7 (pre++[t]) r
def js(s:List zd):Bool:=decide ((s.length:Int)<=5)&&(z7 [] s&& !(s.any λt=>t.fks.any λf=> !metF s t f))
theorem wbc:∀{l pre:List zd},z7 pre l=true->∀t∈l,zao t=true
 |[],_,_,t,h=>by simp at h
 |a::r,pre,h,t,ht=>by
  simp only[z7,Bool.and_eq_true]at h;rcases List.mem_cons.1 ht with rfl|ht
  ·exact h.1.1
  ·exact wbc h.2 t ht
theorem whi(h:zao t=true):∀c∈t.key,0<=c/\c<t.cols.length:=wci (wy.1 h).2.2.1
theorem wjb(h:zao t=true){f:Fk}(hf:f∈t.fks):∀c∈f.cols,0<=c/\c<t.cols.length:=by
 have h1:=(wy.1 h).2.2.2.2.2.2.2.2.2.2;rw[ybr]at h1;have:=h1 f hf;simp only[Bool.not_eq_true',Bool.not_eq_false,zc1,Bool.and_eq_true]at this;exact wci this.1
theorem wid(s:List zd)(t:zd)(f:Fk)(hx:s.length<=34359738368)(hs:∀u∈s,u.key.length<=34359738368/\∀c∈u.key,0<=c/\c<u.cols.length)(hf0:f.cols.length<=34359738368)(hf:∀c∈f.cols,0<=c/\c<t.cols.length):Pure Tryz.prog 273 [.agg (j3 f),.c (.fp [.fz (s.map ja)]),.c (.fp (ja t))] (.c (.bool (!metF s t f))):=by
 refine yaq [3] wdq λG=>?_;repeat' first|refine X ?_|refine yaC (jm1 s t f hx hs hf0 hf) ?_|exact yaF|refine Y ?_ ?_<;>intro _
 exact .ret rfl (.bool rfl)
theorem zjc(s:List zd)(t:zd)(hx:s.length<=34359738368)(hs:∀u∈s,u.key.length<=34359738368/\∀c∈u.key,0<=c/\c<u.cols.length)(hb:zah 34359738368 t)(hf:∀f∈t.fks,∀c∈f.cols,0<=c/\c<t.cols.length):Pure Tryz.prog 271 [.agg (ja t),.c (.fp [.fz (s.map ja)])] (.c (.bool (t.fks.any λf=> !metF s t f))):=by
 refine yaq [2] zeo λG=>?_;have b6:=hb.2.2.2.2.2;repeat' first|refine X ?_|((first|apply yQ|apply yR|apply yS);(iterate 3 exact rfl);exact wj mixed jac wai j3 (λu=>.agg (j3 u)) (λ_=>rfl) (λ_=>rfl) t.fks (λf=> !metF s t f) _ [] [.fp [.fz (s.map ja)],.fp (ja t)] b6.1 (λj hj _=>wid s t _ hx hs (b6.2 _ (yaa hj)).1 (hf _ (yaa hj))))|exact yaF|refine Y ?_ ?_<;>intro _
 exact .ret rfl (.bool rfl)
theorem we0{l:List zd}:∀e∈l.map ja,e.length=6:=λe he=>by
 obtain⟨t,_,rfl⟩:=List.mem_map.1 he
 rfl
theorem jcj(s:List zd)(hx:s.length<=34359738368)(hb:∀t∈s,zah 34359738368 t):Pure Tryz.prog 175 [.c (.fz (s.map ja))] (.c (.bool (js s))):=by
 refine yaq [1] zf2 λG=>?_;repeat' first|refine X ?_|exact yaF|refine Y ?_ ?_<;>intro _
 ·refine .ret rfl (.bool ?_);rw[js,decide_eq_false O]
  rfl
 rename_i h5
 refine Go.keep [1,8,9,10] (Go.loops (I:=λm fr V=>∃i:Nat,∃k:Int,m=s.length-i/\i<=s.length/\k=i/\z7 [] s=z7 (s.take i) (s.drop i)/\
  fr=[(1,.c (.fp [.fz (s.map ja)])),(8,.c (.fz (s.map ja))),(9,.c (.int .i64 (s.length:Int))),(10,.c (.int .i64 k))]/\V=E G []) ?_ _ _ _ ⟨0,_,rfl,yad _,rfl,rfl,rfl,rfl⟩)
 rintro m fr V ⟨i,k,rfl,hi,hk,hsl,rfl,rfl⟩ hrec;by_cases hlt:i<s.length
 ·have hd:=yab hlt;have htk:(s.map ja).take i=(s.take i).map ja:=List.map_take.symm;have hstep:z7 [] s=(zao s[i]&& !((s.take i).any λd=>d.name==s[i].name)&&z7 (s.take (i+1)) (s.drop (i+1))):=by
   rw[hsl,hd,z7,yaj hlt]
  have neg:(zao s[i]=false\/((s.take i).any λd=>d.name==s[i].name)=true)->js s=false:=by
   rintro(h|h)
   ·rw[js,hstep,h];simp
   ·rw[js,hstep,h];simp
  have hany:=wb3 (p:=λd:zd=>d.name==s[i].name) (l:=s.take i);repeat' first|refine X ?_|((first|apply yG|apply yH|apply yI);exact rfl;(first|exact yax ja hk hlt|exact za3 (n:=i) rfl rfl hk gq we0))|((first|apply Go.pcallB|apply Go.spcallB|apply Qg.pcallB);(iterate 3 exact rfl);exact zk2 s[i] (hb _ (yaa hlt));intro _ _)|exact yaF|refine Y ?_ ?_<;>intro _
  ·rename_i c p q;exact .ret rfl (.bool (neg (.inl (nbT p q))).symm)
  rename_i c p q;rw[htk];repeat' first|refine X ?_|((first|apply Go.pcallI|apply Go.spcallI|apply Qg.pcallI);(iterate 3 exact rfl);exact zav (s.take i) s[i].name gq;intro _ _)|exact yaF|refine Y ?_ ?_<;>intro _
  ·rename_i z hz hz2;refine .ret rfl (.bool (neg (.inr ?_)).symm);rw[<-hany,hz];simpa using hz2
  ·rename_i z hz hz2;refine Go.keep [1,8,9,10] (hrec _ _ _ O ⟨i+1,_,rfl,hlt,wb hk O, ?_,rfl,rfl⟩);rw[hstep,nbF p q,<-hany,hz,decide_eq_false O]
   rfl
 have hfin:z7 [] s=true:=by
  rw[hsl,yac O]
  rfl
 have hok:=wbc hfin;clear hrec hsl;repeat' first|refine X ?_|((first|apply yQ|apply yR|apply yS);(iterate 3 exact rfl);exact wj mixed jbh zaq ja (λu=>.agg (ja u)) (λ_=>rfl) (λ_=>rfl) s (λt=>t.fks.any λf=> !metF s t f) _ [] [.fp [.fz (s.map ja)]] hx (λj hj _=>zjc s _ hx (λu hu=>⟨(hb u hu).2.2.1,whi (hok u hu)⟩) (hb _ (yaa hj)) (λf hf=>wjb (hok _ (yaa hj)) hf)))|exact yaF|refine Y ?_ ?_<;>intro _
 refine .ret rfl (.bool ?_);rw[js,hfin,decide_eq_true O]
 rfl
theorem wj6(h:js s=true->False):js s=false:=by
 cases c:js s
 ·rfl
 ·exact(h c).elim
theorem wcj:js s=true↔(s.length:Int)<=5/\z7 [] s=true/\(s.any λt=>t.fks.any λf=> !metF s t f)=false:=by
 simp only[js,Bool.and_eq_true,decide_eq_true_eq,Bool.not_eq_true']
theorem ze1(s:List zd)(hx:s.length<=34359738368)(hb:∀t∈s,zah 34359738368 t):Pure Tryz.prog 157 [.c (.fz (s.map ja))] (.c (.bool (js s))):=by
 refine yaq [] wfz λG=>?_;repeat' first|refine X ?_|exact yaF|refine Y ?_ ?_<;>intro _
 refine Go.keep [0,3] (Go.loops (I:=λm fr V=>∃i:Nat,∃k:Int,m=s.length-i/\i<=s.length/\k=i/\z7 [] s=z7 (s.take i) (s.drop i)/\
  fr=[(0,.c (.fz (s.map ja))),(3,.c (.int .i64 k))]/\V=E G []) ?_ _ _ _ ⟨0,_,rfl,yad _,rfl,rfl,rfl,rfl⟩)
 rintro m fr V ⟨i,k,rfl,hi,hk,hsl,rfl,rfl⟩ hrec;by_cases hlt:i<s.length
 ·have hd:=yab hlt;have htk:(s.map ja).take i=(s.take i).map ja:=List.map_take.symm;have hstep:z7 [] s=(zao s[i]&& !((s.take i).any λd=>d.name==s[i].name)&&z7 (s.take (i+1)) (s.drop (i+1))):=by
   rw[hsl,hd,z7,yaj hlt]
  have neg:(zao s[i]=false\/((s.take i).any λd=>d.name==s[i].name)=true)->js s=false:=by
   rintro(h|h)
   ·rw[js,hstep,h];simp
   ·rw[js,hstep,h];simp
  have hany:=wb3 (p:=λd:zd=>d.name==s[i].name) (l:=s.take i);repeat' first|refine X ?_|((first|apply yG|apply yH|apply yI);exact rfl;(first|exact yax ja hk hlt|exact za3 (n:=i) rfl rfl hk gq we0))|((first|apply Go.pcallB|apply Go.spcallB|apply Qg.pcallB);(iterate 3 exact rfl);exact wj4 s[i] (hb _ (yaa hlt));intro _ _)|exact yaF|refine Y ?_ ?_<;>intro _
  ·rename_i c p q;exact .ret rfl (.bool (neg (.inl (nbT p q))).symm)
  rename_i c p q;rw[htk];repeat' first|refine X ?_|((first|apply Go.pcallI|apply Go.spcallI|apply Qg.pcallI);(iterate 3 exact rfl);exact jc1 (s.take i) s[i].name gq;intro _ _)|exact yaF|refine Y ?_ ?_<;>intro _
  ·rename_i z hz hz2;refine .ret rfl (.bool (neg (.inr ?_)).symm);rw[<-hany,hz];simpa using hz2
  ·rename_i z hz hz2;refine Go.keep [0,3] (hrec _ _ _ O ⟨i+1,_,rfl,hlt,wb hk O, ?_,rfl,rfl⟩);rw[hstep,nbF p q,<-hany,hz,decide_eq_false O]
   rfl
 have hfin:z7 [] s=true:=by
  rw[hsl,yac O]
  rfl
 have hok:=wbc hfin;clear hrec hsl;repeat' first|refine X ?_|exact yaF|refine Y ?_ ?_<;>intro _
 clear hlt hk hi
 -- the references
 refine Go.keep [0,4] (Go.loops (I:=λm fr V=>∃i:Nat,∃k:Int,m=s.length-i/\i<=s.length/\k=i/\(∀j (hj:j<s.length),j<i->(!(s[j].fks.any λf=> !metF s s[j] f))=true)/\
  fr=[(0,.c (.fz (s.map ja))),(4,.c (.int .i64 k))]/\V=E G []) ?_ _ _ _ ⟨0,_,rfl,yad _,rfl,λj _ h=>absurd h O,rfl,rfl⟩)
 rintro m fr V ⟨i,k,rfl,hi,hk,hall,rfl,rfl⟩ hrec;by_cases hlt:i<s.length
 ·have hmem:=yaa hlt;have hti:=hok _ hmem;have b6:=(hb _ hmem).2.2.2.2.2;repeat' first|refine X ?_|exact yaF|refine Y ?_ ?_<;>intro _
  refine Go.keep [0,4,5] (Go.loops (I:=λm fr V=>∃i2:Nat,∃k2:Int,m=s[i].fks.length-i2/\i2<=s[i].fks.length/\k2=i2/\(∀j (hj:j<s[i].fks.length),j<i2->metF s s[i] s[i].fks[j]=true)/\
   fr=[(0,.c (.fz (s.map ja))),(4,.c (.int .i64 k)),(5,.c (.int .i64 k2))]/\V=E G []) ?_ _ _ _ ⟨0,_,rfl,yad _,rfl,λj _ h=>absurd h O,rfl,rfl⟩)
  rintro m fr V ⟨i2,k2,rfl,hi2,hk2,hall2,rfl,rfl⟩ hrec2;by_cases hlt2:i2<s[i].fks.length
  ·have hfm:=yaa hlt2;have hf:=wjb hti hfm;have hf0:=(b6.2 _ hfm).1;have neg:metF s s[i] s[i].fks[i2]=false->js s=false:=λh=>wj6 λhh=>by
    have h2:=(wcj.1 hh).2.2;rw[ybr]at h2;exact h2 _ hmem (List.any_eq_true.2 ⟨_,hfm,by rw[h];rfl⟩)
   repeat' first|refine X ?_|((first|apply yG|apply yH|apply yI);exact rfl;(first|exact yax ja hk hlt|exact yax j3 hk2 hlt2))|exact yaF|refine Y ?_ ?_<;>intro _
   refine .pcall rfl rfl rfl (jc1 s s[i].fks[i2].table hx) ?_;rcases jb6 (p:=λu:zd=>u.name==s[i].fks[i2].table) (l:=s) (i:=0) (yaxq _)with hq|⟨n,hn,hq,hp⟩
   ·have hm:=jj6 (t:=s[i]) hq;rw[hq];repeat' first|refine X ?_|exact yaF|refine Y ?_ ?_<;>intro _
    exact .ret rfl (.bool (neg hm).symm)
   rw[ybw]at hq;have hm:=jid (t:=s[i]) hq hn;have hsk:=whi (hok _ (yaa hn));rw[hq];have hnz:¬((n:Int)<0):=O;repeat' first|refine X ?_|((first|apply yG|apply yH|apply yI);exact rfl;(first|exact yax ja rfl hn))|exact yaF|refine Y ?_ ?_<;>intro _
   ·rename_i h;refine .ret rfl (.bool (neg ?_).symm);rw[hm,zid,decide_eq_false O]
    rfl
   rename_i hlen
   refine Go.keep [0,4,5,6,7,8] (Go.loops (I:=λm fr V=>∃i3:Nat,∃k3:Int,m=s[i].fks[i2].cols.length-i3/\i3<=s[i].fks[i2].cols.length/\k3=i3/\wbl s[n] s[i] s[n].key s[i].fks[i2].cols=wbl s[n] s[i] (s[n].key.drop i3) (s[i].fks[i2].cols.drop i3)/\
    fr=[(0,.c (.fz (s.map ja))),(4,.c (.int .i64 k)),(5,.c (.int .i64 k2)),(6,.c (.fp (j3 s[i].fks[i2]))),(7,.c (.int .i64 (n:Int))),(8,.c (.int .i64 k3))]/\V=E G []) ?_ _ _ _ ⟨0,_,rfl,yad _,rfl,rfl,rfl,rfl⟩)
   rintro m fr V ⟨i3,k3,rfl,hi3,hk3,hsl,rfl,rfl⟩ hrec3;by_cases hlt3:i3<s[i].fks[i2].cols.length
   ·have hlt4:i3<s[n].key.length:=O;have h1:=hsk _ (yaa hlt4);have h2:=hf _ (yaa hlt3);obtain⟨a,ha⟩:∃a:Nat,s[n].key[i3]=a:=⟨s[n].key[i3].toNat,O⟩;obtain⟨c,hc⟩:∃c:Nat,s[i].fks[i2].cols[i3]=c:=⟨s[i].fks[i2].cols[i3].toNat,O⟩;have ha2:a<s[n].cols.length:=O;have hc2:c<s[i].cols.length:=O;have e1:=jbi ha ha2;have e2:=jbi hc hc2;have hstep:wbl s[n] s[i] s[n].key s[i].fks[i2].cols=(s[n].cols[a].kind==s[i].cols[c].kind&&wbl s[n] s[i] (s[n].key.drop (i3+1)) (s[i].fks[i2].cols.drop (i3+1))):=by
     rw[hsl,yab hlt3,yab hlt4,wbl,e1,e2]
    repeat' first|refine X ?_|((first|apply yG|apply yH|apply yI);exact rfl;(first|exact yax ja hk hlt|exact yax encI hk3 hlt3|exact yax ja rfl hn|exact yax encI hk3 hlt4|exact yax ji ha ha2|exact yax ji hc hc2))|exact yaF|refine Y ?_ ?_<;>intro _
    ·rename_i h;refine .ret rfl (.bool (neg ?_).symm);rw[hm,zid,hstep,beq_eq_false_iff_ne.2 λe=>h e.symm];simp
    ·rename_i h;refine Go.keep [0,4,5,6,7,8] (hrec3 _ _ _ O ⟨i3+1,_,rfl,hlt3,wb hk3 O, ?_,rfl,rfl⟩);rw[hstep,h];simp
   ·have hmt:metF s s[i] s[i].fks[i2]=true:=by
     rw[hm,zid,hsl,yac O,decide_eq_true O]
     cases s[n].key.drop i3<;>rfl
    clear hrec3;repeat' first|refine X ?_|exact yaF|refine Y ?_ ?_<;>intro _
    exact Go.keep [0,4,5] (hrec2 _ _ _ O ⟨i2+1,_,rfl,hlt2,wb hk2 O,upto (p:=λf=>metF s s[i] f) hall2 hlt2 hmt,rfl,rfl⟩)
  ·have hany:=wbo (p:=λf=>metF s s[i] f) (l:=s[i].fks) λj hj=>hall2 j hj O;clear hrec2;repeat' first|refine X ?_|((first|apply yG|apply yH|apply yI);exact rfl;(first|exact yax ja hk hlt))|exact yaF|refine Y ?_ ?_<;>intro _
   exact Go.keep [0,4] (hrec _ _ _ O ⟨i+1,_,rfl,hlt,wb hk O,upto (p:=λt:zd=> !(t.fks.any λf=> !metF s t f)) hall hlt (by rw[hany];rfl),rfl,rfl⟩)
 ·have hany:=wbo (p:=λt:zd=> !(t.fks.any λf=> !metF s t f)) (l:=s) λj hj=>hall j hj O;clear hrec;repeat' first|refine X ?_|exact yaF|refine Y ?_ ?_<;>intro _
  refine .ret rfl (.bool ?_);simp only[Bool.not_not]at hany;rw[js,hfin,hany];simp
def jjc(s:List zd)(nm:List UInt8):Option zd:=if s.any (λu=>u.name==nm)then s[(idxA (λu=>u.name==nm) s 0).toNat]? else none
variable {nm:List UInt8}
theorem zb2(h:idxA (λu=>u.name==nm) s 0=-1):jjc s nm=none:=by
 have:=wb3 (p:=λu:zd=>u.name==nm) (l:=s);rw[h]at this;rw[jjc,<-this]
 rfl
theorem wa5(h:idxA (λu=>u.name==nm) s 0=n)(hn:n<s.length):jjc s nm=some s[n]:=by
 have:=wb3 (p:=λu:zd=>u.name==nm) (l:=s);rw[h]at this;rw[jjc,<-this,h,decide_eq_true O];simp[hn]
theorem wbi(h:js s=true):∀t∈s,1<=t.cols.length/\t.cols.length<=8:=λt ht=>by
 have:=(wy.1 (wbc (wcj.1 h).2.1 t ht)).2.1;simp only[isIn,Bool.and_eq_true,decide_eq_true_eq]at this;omega
def zhj(l:List Term)(n:Int):Bool:= !(l.any λx=> !war x.expr n)
def wbt(e:List Tok)(n:Int):Bool:=(e.length:Int)==0||war e n
theorem wjc(x:Term)(n:Int)(hb:zeq 34359738368 x)(h0:0<=n)(h1:n<=16):Pure Tryz.prog 342 [.agg (zn x),.c (.fp [.int .i64 n])] (.c (.bool (!war x.expr n))):=by
 refine yaq [2] jep λG=>?_;have hc:=wc0 x.expr n hb.1;rw[zd8 h0 h1]at hc;repeat' first|refine X ?_|refine yaC (hc) ?_|exact yaF|refine Y ?_ ?_<;>intro _
 exact .ret rfl (.bool rfl)
theorem zj7(l:List Term)(n:Int)(hx:l.length<=34359738368)(hb:∀x∈l,zeq 34359738368 x)(h0:0<=n)(h1:n<=16):Pure Tryz.prog 278 [.c (.fz (l.map zn)),.c (.int .i64 n)] (.c (.bool (zhj l n))):=by
 refine yaq [3] wf7 λG=>?_;repeat' first|refine X ?_|((first|apply yQ|apply yR|apply yS);(iterate 3 exact rfl);exact wj mixed jbk zby zn (λu=>.agg (zn u)) (λ_=>rfl) (λ_=>rfl) l (λx=> !war x.expr n) _ [] [.fp [.int .i64 n]] hx (λj hj _=>wjc _ _ (hb _ (yaa hj)) h0 h1))|exact yaF|refine Y ?_ ?_<;>intro _
 exact .ret rfl (.bool rfl)
theorem jhj(e:List Tok)(n:Int)(hx:e.length<=34359738368)(h0:0<=n)(h1:n<=16):Pure Tryz.prog 142 [.c (.fz (e.map zh)),.c (.int .i64 n)] (.c (.bool (wbt e n))):=by
 refine yaq [] jg0 λG=>?_;have hc:=wc0 e n hx;rw[zd8 h0 h1]at hc;repeat' first|refine X ?_|((first|apply Go.pcallB|apply Go.spcallB|apply Qg.pcallB);(iterate 3 exact rfl);exact hc;intro _ _)|exact yaF|refine Y ?_ ?_<;>intro _
 all_goals refine .ret rfl (.bool ?_)
 ·rename_i h;rw[wbt,h]
  rfl
 ·rename_i h b hb;rw[wbt,hb,beq_eq_false_iff_ne.2 h]
  rfl
def jdk(t:zd):Nat->List Val->Bool
 |_,[]=>true
 |i,v::r=>wgg v (zdk t i)&&jdk t (i+1) r
def fitF(t:zd)(vals:List Val):Bool:=decide ((vals.length:Int)=t.cols.length)&&jdk t 0 vals
theorem wko(t:zd)(vals:List Val)(hx:vals.length<=34359738368):Pure Tryz.prog 135 [.agg (ja t),.c (.fz (vals.map encV))] (.c (.bool (fitF t vals))):=by
 refine yaq [2] zkw λG=>?_;repeat' first|refine X ?_|exact yaF|refine Y ?_ ?_<;>intro _
 ·rename_i h;refine .ret rfl (.bool ?_);rw[fitF,decide_eq_false h]
  rfl
 rename_i hlen;have hlen:(vals.length:Int)=t.cols.length:=O
 refine Go.keep [2,13,14,15] (Go.loops (I:=λm fr V=>∃i:Nat,∃k:Int,m=vals.length-i/\i<=vals.length/\k=i/\jdk t 0 vals=jdk t i (vals.drop i)/\
  fr=[(2,.c (.fp (ja t))),(13,.c (.fz (vals.map encV))),(14,.c (.int .i64 (vals.length:Int))),(15,.c (.int .i64 k))]/\V=E G []) ?_ _ _ _ ⟨0,_,rfl,yad _,rfl,rfl,rfl,rfl⟩)
 rintro m fr V ⟨i,k,rfl,hi,hk,hsl,rfl,rfl⟩ hrec;by_cases hlt:i<vals.length
 ·have hd:=yab hlt;have hlc:i<t.cols.length:=O;have hka:zdk t i=t.cols[i].kind:=jbi rfl hlc;rw[hd,jdk,hka]at hsl;repeat' first|refine X ?_|((first|apply yG|apply yH|apply yI);exact rfl;(first|exact yax encV hk hlt|exact yax ji hk hlc))|((first|apply Go.pcallB|apply Go.spcallB|apply Qg.pcallB);(iterate 3 exact rfl);exact wj2 vals[i] t.cols[i].kind;intro _ _)|exact yaF|refine Y ?_ ?_<;>intro _
  ·rename_i b p k4;refine .ret rfl (.bool ?_);rw[fitF,hsl,nbT p k4];simp
  ·rename_i b p k4;refine Go.keep [2,13,14,15] (hrec _ _ _ O ⟨i+1,_,rfl,hlt,wb hk O, ?_,rfl,rfl⟩);rw[hsl,nbF p k4]
   rfl
 ·repeat' first|refine X ?_|exact yaF|refine Y ?_ ?_<;>intro _
  refine .ret rfl (.bool ?_);rw[fitF,hsl,yac O,decide_eq_true hlen]
  rfl
theorem jda(t:zd)(vals:List Val)(hx:vals.length<=34359738368):Pure Tryz.prog 160 [.agg (ja t),.c (.fz (vals.map encV))] (.c (.bool (fitF t vals))):=by
 refine yaq [2] zg1 λG=>?_;repeat' first|refine X ?_|exact yaF|refine Y ?_ ?_<;>intro _
 ·rename_i h;refine .ret rfl (.bool ?_);rw[fitF,decide_eq_false h]
  rfl
 rename_i hlen;have hlen:(vals.length:Int)=t.cols.length:=O
 refine Go.keep [1,2,5] (Go.loops (I:=λm fr V=>∃i:Nat,∃k:Int,m=vals.length-i/\i<=vals.length/\k=i/\jdk t 0 vals=jdk t i (vals.drop i)/\
  fr=[(1,.c (.fz (vals.map encV))),(2,.c (.fp (ja t))),(5,.c (.int .i64 k))]/\V=E G []) ?_ _ _ _ ⟨0,_,rfl,yad _,rfl,rfl,rfl,rfl⟩)
 rintro m fr V ⟨i,k,rfl,hi,hk,hsl,rfl,rfl⟩ hrec;by_cases hlt:i<vals.length
 ·have hd:=yab hlt;have hlc:i<t.cols.length:=O;have hka:zdk t i=t.cols[i].kind:=jbi rfl hlc;rw[hd,jdk,hka]at hsl;repeat' first|refine X ?_|((first|apply yG|apply yH|apply yI);exact rfl;(first|exact yax encV hk hlt|exact yax ji hk hlc))|((first|apply Go.pcallB|apply Go.spcallB|apply Qg.pcallB);(iterate 3 exact rfl);exact jam vals[i];intro _ _)|exact yaF|refine Y ?_ ?_<;>intro _
  all_goals first
   |(refine .ret rfl (.bool ?_);rw[fitF,hsl,wgg];clear hrec hsl;simp_all;done)
   |(refine Go.keep [1,2,5] (hrec _ _ _ O ⟨i+1,_,rfl,hlt,wb hk O, ?_,rfl,rfl⟩);rw[hsl,wgg];clear hrec hsl;simp_all;done)
 ·repeat' first|refine X ?_|exact yaF|refine Y ?_ ?_<;>intro _
  refine .ret rfl (.bool ?_);rw[fitF,hsl,yac O,decide_eq_true hlen]
  rfl
def jc3(n:Int)(x:SetS):Bool:=isIn x.col 0 (n-1)&&war x.expr n
def za6(n:Int):List SetS->List SetS->Bool
 |_,[]=>true
 |pre,x::r=>jc3 n x&& !(pre.any λy=>y.col==x.col)&&za6 n (pre++[x]) r
def jg9(l:List SetS)(n:Int):Bool:=za6 n [] l
theorem jj7(y x:SetS):Pure Tryz.prog 276 [.agg (wi y),.c (.fp (wi x))] (.c (.bool (y.col==x.col))):=by
 refine yaq [2] wfg λG=>?_;repeat' first|refine X ?_|exact yaF|refine Y ?_ ?_<;>intro _
 all_goals refine .ret rfl (.bool ?_)
 all_goals simp_all
theorem jnf{n:Int}(h0:0<=n)(h1:n<=16):IntKind.i64.wrap (n-1)=n-1:=jg O O
theorem jk4(l:List SetS)(n:Int)(hx:l.length<=34359738368)(hb:∀x∈l,wfk 34359738368 x)(h0:0<=n)(h1:n<=16):Pure Tryz.prog 181 [.c (.fz (l.map wi)),.c (.int .i64 n)] (.c (.bool (jg9 l n))):=by
 refine yaq [] jg2 λG=>?_;have hw:=jnf h0 h1;repeat' first|refine X ?_|exact yaF|refine Y ?_ ?_<;>intro _
 refine Go.keep [0,1,7,8,9] (Go.loops (I:=λm fr V=>∃i:Nat,∃k:Int,m=l.length-i/\i<=l.length/\k=i/\za6 n [] l=za6 n (l.take i) (l.drop i)/\
  fr=[(0,.c (.fz (l.map wi))),(1,.c (.int .i64 n)),(7,.c (.fz (l.map wi))),(8,.c (.int .i64 (l.length:Int))),(9,.c (.int .i64 k))]/\V=E G []) ?_ _ _ _ ⟨0,_,rfl,yad _,rfl,rfl,rfl,rfl⟩)
 rintro m fr V ⟨i,k,rfl,hi,hk,hsl,rfl,rfl⟩ hrec;by_cases hlt:i<l.length
 ·have hd:=yab hlt;have hbc:=hb _ (yaa hlt);have htk:(l.map wi).take i=(l.take i).map wi:=List.map_take.symm;have hstep:za6 n [] l=(jc3 n l[i]&& !((l.take i).any λy=>y.col==l[i].col)&&za6 n (l.take (i+1)) (l.drop (i+1))):=by
   rw[hsl,hd,za6,yaj hlt]
  have hex:=wc0 l[i].expr n hbc.1;rw[zd8 h0 h1]at hex;repeat' first|refine X ?_|((first|apply yG|apply yH|apply yI);exact rfl;(first|exact yax wi hk hlt))|((first|apply Go.pcallB|apply Go.spcallB|apply Qg.pcallB);(iterate 3 exact rfl);(first|exact jfj _ _ _|exact hex);intro _ _)|exact yaF|refine Y ?_ ?_<;>intro _
  all_goals try(refine .ret rfl (.bool ?_);rw[jg9,hstep,jc3,<-hw];clear hrec hsl hstep hex;simp_all;done)
  all_goals have hcol:jc3 n l[i]=true:=(by rw[jc3,<-hw];clear hrec hsl hstep hex;simp_all)
  all_goals refine .op rfl (za3 (n:=i) rfl rfl hk gq (λe he=>by obtain⟨c,_,rfl⟩:=List.mem_map.1 he;rfl)) ?_
  all_goals rw[htk]
  all_goals(repeat' first|(apply yA;exact rfl)|apply yB|apply yC|((first|apply yD|apply yE);(first|exact yF|assumption);iterate 6 exact rfl)|((first|apply yG|apply yH|apply yI);exact rfl;(first|exact yJ|exact yK rfl rfl|exact yL rfl|exact yM rfl|exact rfl|exact aL rfl rfl rfl rfl rfl|exact aS rfl rfl rfl rfl rfl rfl rfl))|((first|apply yN|apply yO|apply yP);exact rfl)|((first|apply Go.pcallB|apply Go.spcallB|apply Qg.pcallB);(iterate 3 exact rfl);exact wj mixed jbn wb4 wi (λc=>.agg (wi c)) (λ_=>rfl) (λ_=>rfl) (l.take i) (λd=>d.col==l[i].col) _ [] [.fp (wi l[i])] (by simp;omega) (λj hj _=>jj7 _ _);intro _ _)|exact yaF|(((first|apply yT|apply yU|apply yV|apply yW);exact rfl;(first|exact .d|exact .e|exact .n|((fail_if_success exact bqt);(fail_if_success exact bqf);exact .b)))<;>intro _))
  all_goals rename_i b9 hb9 hb8
  all_goals first
   |(refine .ret rfl (.bool ?_);rw[jg9,hstep,bT hb9 hb8];simp)
   |(refine Go.keep [0,1,7,8,9] (hrec _ _ _ O ⟨i+1,_,rfl,hlt,wb hk O, ?_,rfl,rfl⟩);rw[hstep,hcol,bF hb9 hb8];rfl)
 ·repeat' first|refine X ?_|exact yaF|refine Y ?_ ?_<;>intro _
  refine .ret rfl (.bool ?_);rw[jg9,hsl,yac O]
  rfl
structure Data where
 rows:List RowD
 deriving DecidableEq
def jb(a:Data):List Ce:=[.fz (a.rows.map jc)]
def jbz(N:Nat)(a:Data):Prop:=(a.rows.length<=N/\∀x∈a.rows,wer N x)
def jes(a:Data):Int->Int:=j4 [(szL zcc a.rows)]
theorem wgk(a:Data):zcz [(szL zcc a.rows)]:=(.cons (λl h=>zac jbp _ l h) .nil)
theorem jfm(a:Data)(l:Int)(h:0<=l):jes a l<=l:=waz (wgk a) l h
theorem wm1(a:Data)(l:Int)(N:Nat)(h0:0<=l)(h:0<=jes a l)(hl:l<=N):jbz N a:=by
 have hh:=wam (wgk a) l h0 h;obtain⟨q0,u0,v0,w0⟩:=hh (szL zcc a.rows) gx;exact(waq jbp jko u0 w0 O)
theorem zly(a:Data)(left:Int)(hb:jbz 1125899906842624 a)(h0:0<=left)(h1:left<=34359738368):Pure Tryz.prog 60 [.agg (jb a),.c (.int .i64 left)] (.c (.int .i64 (jes a left))):=by
 refine yaq [2] whu λG=>?_;repeat' first|refine X ?_|fail
 refine .pcall rfl rfl rfl (whh a.rows left hb.1 hb.2 O O) ?_;have y1:=zac jbp a.rows left O;generalize e1:szL zcc a.rows left=l1 at y1⊢;repeat' first|refine X ?_|exact yaF|refine Y ?_ ?_<;>intro _
 ·refine .ret rfl (.int ?_);rename_i h;simp only[jes,j4,e1,if_pos h]
 rename_i g1;refine .ret rfl (.int ?_);simp only[jes,j4,e1,if_neg g1]
theorem wk4(xs:List Data)(left:Int)(hx:xs.length<=1125899906842624)(hv:∀e∈xs,jbz 1125899906842624 e)(h0:0<=left)(h1:left<=34359738368):Pure Tryz.prog 13 [.c (.fz (xs.map jb)),.c (.int .i64 left)] (.c (.int .i64 (szL jes xs left))):=
 wco mixed jeh jb jes xs left hx h0 h1 (λ_=>rfl) jfm λa ha l h2 h3=>zly a l (hv a ha) h2 O
theorem jly(a:Data)(hb:jbz 34359738368 a)(G:wa):Ok Tryz.prog 75 [.agg (jb a)] G (NewL G (jb a)):=by
 refine Ok.run mixed we7 gz λhS hA=>?_;clear hS hA;repeat' first|refine X ?_|exact yaF|refine Y ?_ ?_<;>intro _
 refine Go.call _ rfl rfl rfl (zhi a.rows hb.1 hb.2 _) ?_;rintro r G0 ⟨x0,m0,rfl,rfl,t0,h0⟩;rw[E_E]at h0⊢;have t0:=zar t0;have h0:=h0.new2;repeat' first|refine X ?_|exact yaF|refine Y ?_ ?_<;>intro _
 have hL:HasL (E G ((0,[[x0]])::(0,[[x0]])::([]++m0))) (λa=>G.next+2<=a/\a<G.next+2+([]++m0).length) (jb a) [x0]:=by
  refine HasL.mono ?_ (HasL.two (h0 _ _) (HasL.nil (S:=λa=>a<0)) (λa ha hb=>by(try dsimp only at ha hb);(try simp only[List.append_eq,List.length_append,List.length_nil,List.nil_append]at ha hb);omega));intro a ha
  (try dsimp only at ha)
  (try simp only[List.append_eq,List.length_append,List.length_nil,List.nil_append]at ha⊢)
  omega
 have hT:=hL.tidy (n:=G.next) λa ha=>by have:=ha.1;omega
 have hM:wa0 G.next ([]++m0):=(wae (λb hb=>by simp at hb) t0);have hN:NewL G (jb a) (.agg [x0]) (E G ((0,[[x0]])::(0,[[x0]])::([]++m0))):=by
  refine⟨_,_,rfl,rfl,.one hT (.one hT hM),hL.mono ?_⟩;intro a ha;have h9:=ha.1;have h8:=ha.2
  (try simp only[z4,List.length_cons,List.append_eq,List.length_append,List.length_nil,List.nil_append]at h8⊢)
  constructor<;>omega
 exact .ret (ja2 rfl rfl rfl gz rfl) hN
theorem wes(xs:List Data)(hx:xs.length<=34359738368)(hv:∀e∈xs,jbz 34359738368 e)(G:wa):Ok Tryz.prog 18 [.c (.fz (xs.map jb))] G (New G (.fz (xs.map jb))):=
 jco mixed zei jb xs hx gb rfl (λ_=>rfl) (by intro x hx;simp only[List.mem_cons,List.not_mem_nil,or_false]at hx;rcases hx with rfl<;>constructor) (λa ha G=>jly a (hv a ha) G) G
theorem zm2(a b:Data):(a==b)=(a.rows==b.rows):=by
 obtain⟨a0⟩:=a;obtain⟨b0⟩:=b;rw[ybc];simp[and_assoc]
theorem wly(a b:Data)(hb:jbz 34359738368 a):Pure Tryz.prog 87 [.agg (jb a),.agg (jb b)] (.c (.bool (a==b))):=by
 refine yaq [2,3] jhy λG=>?_;have hq:=zm2 a b;repeat' first|refine X ?_|((first|apply Go.pcallB|apply Go.spcallB|apply Qg.pcallB);(iterate 3 exact rfl);exact jhi a.rows b.rows hb.1 hb.2;intro _ _)|exact yaF|refine Y ?_ ?_<;>intro _
 all_goals refine .ret rfl (.bool ?_)
 all_goals rw[hq]
 all_goals clear hq hb
 all_goals simp_all
theorem zbd(xs ys:List Data)(hx:xs.length<=34359738368)(hv:∀e∈xs,jbz 34359738368 e):Pure Tryz.prog 21 [.c (.fz (xs.map jb)),.c (.fz (ys.map jb))] (.c (.bool (xs==ys))):=
 jcu mixed jei jb xs ys hx (λ_=>rfl) λa ha b=>wly a b (hv a ha)
def wb6(p:Option Int)(n:Int):Bool:=match p with|none=>true|some q=>decide (q<n)
def wc3(t:zd)(p:Option Int)(r:RowD):Bool:=isIn r.id 1 1000000000&&(wb6 p r.id&&fitF t r.vals)
def ja6(t:zd):Option Int->List RowD->Bool
 |_,[]=>true
 |p,r::l=>wc3 t p r&&ja6 t (some r.id) l
def zgl(t:zd)(l:List RowD):Bool:=ja6 t none l&&decide ((l.length:Int)<=60)
def jgl:List zd->List Data->Bool
 |t::s,d::db=>zgl t d.rows&&jgl s db
 |_,_=>true
def dbF(s:List zd)(db:List Data):Bool:=js s&&(decide ((db.length:Int)=s.length)&&jgl s db)
theorem zk5(t:zd)(l:List RowD)(hx:l.length<=34359738368)(hb:∀r∈l,r.vals.length<=34359738368):Pure Tryz.prog 176 [.agg (ja t),.c (.fz (l.map jc))] (.c (.bool (zgl t l))):=by
 refine yaq [2] zg2 λG=>?_;repeat' first|refine X ?_|exact yaF|refine Y ?_ ?_<;>intro _
 refine Go.keep [1,2,7,8,9] (Go.loops (I:=λm fr V=>∃(i:Nat) (k:Int) (p:Option Int),m=l.length-i/\i<=l.length/\k=i/\(ja6 t none l=ja6 t p (l.drop i)/\((i=0/\p=none)\/∃j,∃hj:j<l.length,i=j+1/\p=some l[j].id))/\
  fr=[(1,.c (.fz (l.map jc))),(2,.c (.fp (ja t))),(7,.c (.fz (l.map jc))),(8,.c (.int .i64 (l.length:Int))),(9,.c (.int .i64 k))]/\V=E G []) ?_ _ _ _ ⟨0,_,none,rfl,yad _,rfl,⟨rfl,.inl ⟨rfl,rfl⟩⟩,rfl,rfl⟩)
 rintro m fr V ⟨i,k,p,rfl,hi,hk,⟨hs,hp⟩,rfl,rfl⟩ hrec;by_cases hlt:i<l.length
 ·have hv:=hb _ (yaa hlt);rw[yab hlt,ja6]at hs;rcases hp with⟨rfl,rfl⟩|⟨j,hj,rfl,rfl⟩
  ·repeat' first|refine X ?_|((first|apply yG|apply yH|apply yI);exact rfl;(first|exact yax jc hk hlt))|((first|apply Go.pcallB|apply Go.spcallB|apply Qg.pcallB);(iterate 3 exact rfl);(first|exact jfj _ _ _|exact wko t l[0].vals hv);intro _ _)|exact yaF|refine Y ?_ ?_<;>intro _
   all_goals first
    |(refine .ret rfl (.bool ?_);clear hrec;rw[zgl,hs,wc3,wb6];clear hs;simp_all;done)
    |(refine Go.keep [1,2,7,8,9] (hrec _ _ _ O ⟨0+1,_,some l[0].id,rfl,hlt,wb hk O,⟨?_,.inr ⟨0,hlt,rfl,rfl⟩⟩,rfl,rfl⟩);clear hrec;rw[hs,wc3,wb6];clear hs;simp_all;done)
  ·repeat' first|refine X ?_|((first|apply yG|apply yH|apply yI);exact rfl;(first|exact yax jc hk hlt|exact yX (enc:=jc) rfl rfl (jis hk O) hj rfl))|((first|apply Go.pcallB|apply Go.spcallB|apply Qg.pcallB);(iterate 3 exact rfl);(first|exact jfj _ _ _|exact wko t l[j+1].vals hv);intro _ _)|exact yaF|refine Y ?_ ?_<;>intro _
   all_goals first
    |(refine .ret rfl (.bool ?_);clear hrec;rw[zgl,hs,wc3,wb6];clear hs;(simp_all<;>intros<;>omega);done)
    |(refine Go.keep [1,2,7,8,9] (hrec _ _ _ O ⟨j+1+1,_,some l[j+1].id,rfl,hlt,wb hk O,⟨?_,.inr ⟨j+1,hlt,rfl,rfl⟩⟩,rfl,rfl⟩);clear hrec;rw[hs,wc3,wb6];clear hs;(simp_all<;>intros<;>omega);done)
 ·repeat' first|refine X ?_|exact yaF|refine Y ?_ ?_<;>intro _
  refine .ret rfl (.bool ?_);rw[zgl,hs,yac O];simp[ja6]
theorem jns(s:List zd)(db:List Data)(hx:s.length<=34359738368)(hb:∀t∈s,zah 34359738368 t)(hd:db.length<=34359738368)(hdb:∀d∈db,jbz 34359738368 d):Pure Tryz.prog 79 [.c (.fz (s.map ja)),.c (.fz (db.map jb))] (.c (.bool (dbF s db))):=by
 refine yaq [] jju λG=>?_;have c1:=jcj s hx hb
 cases hs:js s
 ·rw[hs]at c1;repeat' first|refine X ?_|refine yaC (c1) ?_|exact yaF|refine Y ?_ ?_<;>intro _
  refine .ret rfl (.bool ?_);rw[dbF,hs]
  rfl
 rw[hs]at c1;repeat' first|refine X ?_|refine yaC (c1) ?_|exact yaF|refine Y ?_ ?_<;>intro _
 ·rename_i h;refine .ret rfl (.bool ?_);rw[dbF,hs,decide_eq_false h]
  rfl
 rename_i hl;have hl:(db.length:Int)=s.length:=O
 refine Go.keep [0,17,18,19] (Go.loops (I:=λm fr V=>∃(i:Nat) (k:Int),m=db.length-i/\i<=db.length/\k=i/\jgl s db=jgl (s.drop i) (db.drop i)/\
  fr=[(0,.c (.fz (s.map ja))),(17,.c (.fz (db.map jb))),(18,.c (.int .i64 (db.length:Int))),(19,.c (.int .i64 k))]/\V=E G []) ?_ _ _ _ ⟨0,_,rfl,yad _,rfl,rfl,rfl,rfl⟩)
 rintro m fr V ⟨i,k,rfl,hi,hk,hsl,rfl,rfl⟩ hrec;clear c1;by_cases hlt:i<db.length
 ·have hlt2:i<s.length:=O;have hbd:=hdb _ (yaa hlt);rw[yab hlt,yab hlt2,jgl]at hsl;repeat' first|refine X ?_|((first|apply yG|apply yH|apply yI);exact rfl;(first|exact yax jb hk hlt|exact yax ja hk hlt2))|((first|apply Go.pcallB|apply Go.spcallB|apply Qg.pcallB);(iterate 3 exact rfl);exact zk5 s[i] db[i].rows hbd.1 (λr hr=>(hbd.2 r hr).1);intro _ _)|exact yaF|refine Y ?_ ?_<;>intro _
  ·rename_i b p h;refine .ret rfl (.bool ?_);rw[dbF,hsl,nbT p h];simp
  ·rename_i b p h;refine Go.keep [0,17,18,19] (hrec _ _ _ O ⟨i+1,_,rfl,hlt,wb hk O, ?_,rfl,rfl⟩);rw[hsl,nbF p h,yaz]
 ·repeat' first|refine X ?_|exact yaF|refine Y ?_ ?_<;>intro _
  refine .ret rfl (.bool ?_);rw[dbF,hs,hsl,decide_eq_true hl,show db.drop i=[]from yac O]
  cases List.drop i s<;>rfl
theorem wns(s:List zd)(db:List Data)(hx:s.length<=34359738368)(hd:db.length<=34359738368)(hdb:∀d∈db,jbz 34359738368 d):Pure Tryz.prog 159 [.c (.fz (s.map ja)),.c (.fz (db.map jb))] (.c (.bool (decide ((db.length:Int)=s.length)&&jgl s db))):=by
 refine yaq [] jjv λG=>?_;repeat' first|refine X ?_|exact yaF|refine Y ?_ ?_<;>intro _
 ·rename_i h;refine .ret rfl (.bool ?_);rw[decide_eq_false h]
  rfl
 rename_i hl;have hl:(db.length:Int)=s.length:=O
 refine Go.keep [0,1,5] (Go.loops (I:=λm fr V=>∃(i:Nat) (k:Int),m=db.length-i/\i<=db.length/\k=i/\jgl s db=jgl (s.drop i) (db.drop i)/\
  fr=[(0,.c (.fz (s.map ja))),(1,.c (.fz (db.map jb))),(5,.c (.int .i64 k))]/\V=E G []) ?_ _ _ _ ⟨0,_,rfl,yad _,rfl,rfl,rfl,rfl⟩)
 rintro m fr V ⟨i,k,rfl,hi,hk,hsl,rfl,rfl⟩ hrec;by_cases hlt:i<db.length
 ·have hlt2:i<s.length:=O;have hbd:=hdb _ (yaa hlt);rw[yab hlt,yab hlt2,jgl,zgl]at hsl;obtain⟨l,hle⟩:∃l,db[i].rows=l:=⟨_,rfl⟩;have hrl:l.length<=34359738368:=by rw[<-hle];exact hbd.1
  have hrv:∀r∈l,r.vals.length<=34359738368:=by rw[<-hle];exactλr hr=>(hbd.2 r hr).1
  repeat' first|refine X ?_|((first|apply yG|apply yH|apply yI);exact rfl;(first|exact yax jb hk hlt))|exact yaF|refine Y ?_ ?_<;>intro _
  rw[hle]at hsl⊢
  refine Go.keep [0,1,5,6,7] (Go.loops (I:=λm fr V=>∃(j:Nat) (q:Int) (p:Option Int),m=l.length-j/\j<=l.length/\q=j/\(ja6 s[i] none l=ja6 s[i] p (l.drop j)/\((j=0/\p=none)\/∃a,∃ha:a<l.length,j=a+1/\p=some l[a].id))/\
   fr=[(0,.c (.fz (s.map ja))),(1,.c (.fz (db.map jb))),(5,.c (.int .i64 k)),(6,.c (.fz (l.map jc))),(7,.c (.int .i64 q))]/\V=E G []) ?_ _ _ _ ⟨0,_,none,rfl,yad _,rfl,⟨rfl,.inl ⟨rfl,rfl⟩⟩,rfl,rfl⟩)
  rintro m fr V ⟨j,q,p,rfl,hj,hq,⟨hs2,hp⟩,rfl,rfl⟩ hrec2;by_cases hlj:j<l.length
  ·have hv:=hrv _ (yaa hlj);rw[yab hlj,ja6]at hs2;clear hrec;rcases hp with⟨rfl,rfl⟩|⟨a,ha,rfl,rfl⟩
   ·repeat' first|refine X ?_|((first|apply yG|apply yH|apply yI);exact rfl;(first|exact yax jc hq hlj|exact yax ja hk hlt2))|((first|apply Go.pcallB|apply Go.spcallB|apply Qg.pcallB);(iterate 3 exact rfl);(first|exact wa4 _ _ _|exact jda s[i] l[0].vals hv);intro _ _)|exact yaF|refine Y ?_ ?_<;>intro _
    all_goals first
     |(refine .ret rfl (.bool ?_);clear hrec2;rw[hsl,hs2,wc3,wb6];clear hs2 hsl;simp_all;done)
     |(refine Go.keep [0,1,5,6,7] (hrec2 _ _ _ O ⟨0+1,_,some l[0].id,rfl,hlj,wb hq O,⟨?_,.inr ⟨0,hlj,rfl,rfl⟩⟩,rfl,rfl⟩);clear hrec2;rw[hs2,wc3,wb6];clear hs2 hsl;simp_all;done)
   ·repeat' first|refine X ?_|((first|apply yG|apply yH|apply yI);exact rfl;(first|exact yax jc hq hlj|exact yX (enc:=jc) rfl rfl (jis hq O) ha rfl|exact yax ja hk hlt2))|((first|apply Go.pcallB|apply Go.spcallB|apply Qg.pcallB);(iterate 3 exact rfl);(first|exact wa4 _ _ _|exact jda s[i] l[a+1].vals hv);intro _ _)|exact yaF|refine Y ?_ ?_<;>intro _
    all_goals first
     |(refine .ret rfl (.bool ?_);clear hrec2;rw[hsl,hs2,wc3,wb6];clear hs2 hsl;(simp_all<;>intros<;>omega);done)
     |(refine Go.keep [0,1,5,6,7] (hrec2 _ _ _ O ⟨a+1+1,_,some l[a+1].id,rfl,hlj,wb hq O,⟨?_,.inr ⟨a+1,hlj,rfl,rfl⟩⟩,rfl,rfl⟩);clear hrec2;rw[hs2,wc3,wb6];clear hs2 hsl;(simp_all<;>intros<;>omega);done)
  ·clear hrec2;rw[yac O,ja6]at hs2;repeat' first|refine X ?_|exact yaF|refine Y ?_ ?_<;>intro _
   ·rename_i h;refine .ret rfl (.bool ?_);rw[hsl,hs2,decide_eq_false (p:=(l.length:Int)<=60) O];simp
   ·rename_i h;refine Go.keep [0,1,5] (hrec _ _ _ O ⟨i+1,_,rfl,hlt,wb hk O, ?_,rfl,rfl⟩);rw[hsl,hs2,decide_eq_true (p:=(l.length:Int)<=60) O]
    rfl
 ·repeat' first|refine X ?_|exact yaF|refine Y ?_ ?_<;>intro _
  refine .ret rfl (.bool ?_);rw[hsl,decide_eq_true hl,show db.drop i=[]from yac O]
  cases List.drop i s<;>rfl
theorem jm2(s:List zd)(db:List Data)(hx:s.length<=34359738368)(hb:∀t∈s,zah 34359738368 t)(hd:db.length<=34359738368)(hdb:∀d∈db,jbz 34359738368 d):Pure Tryz.prog 65 [.c (.fz (s.map ja)),.c (.fz (db.map jb))] (.c (.bool (dbF s db))):=by
 refine yaq [] zjt λG=>?_;have c1:=ze1 s hx hb;have c2:=wns s db hx hd hdb;rw[dbF];generalize (decide ((db.length:Int)=s.length)&&jgl s db)=B at c2⊢
 cases hs:js s
 ·rw[hs]at c1;repeat' first|refine X ?_|refine yaC (c1) ?_|exact yaF|refine Y ?_ ?_<;>intro _
  exact .ret rfl (.bool rfl)
 ·rw[hs]at c1;repeat' first|refine X ?_|refine yaC (c1) ?_|refine yaC (c2) ?_|exact yaF|refine Y ?_ ?_<;>intro _
  exact .ret rfl (.bool rfl)
variable {db:List Data}
theorem zjd(h:dbF s db=true):js s=true/\db.length=s.length/\∀i (hi:i<s.length) (hi2:i<db.length),zgl s[i] db[i].rows=true:=by
 simp only[dbF,Bool.and_eq_true,decide_eq_true_eq]at h;obtain⟨h1,h2,h3⟩:=h;refine⟨h1,O, ?_⟩;clear h1 h2
 induction s generalizing db with
 |nil=>intro i hi;simp at hi
 |cons t s ih=>
  cases db with
  |nil=>intro i _ hi;simp at hi
  |cons d db=>
   rw[jgl,yat]at h3;intro i hi hi2
   cases i with
   |zero=>exact h3.1
   |succ i=>exact ih h3.2 i (by simpa using hi) (by simpa using hi2)
theorem wgl{t:zd}:∀{l:List RowD} {p:Option Int},ja6 t p l=true->∀r∈l,fitF t r.vals=true/\isIn r.id 1 1000000000=true
 |[],_,_,r,hr=>by simp at hr
 |a::l,p,h,r,hr=>by
  simp only[ja6,wc3,Bool.and_eq_true]at h;rcases List.mem_cons.1 hr with rfl|hr
  ·exact⟨h.1.2.2,h.1.1⟩
  ·exact wgl h.2 r hr
theorem jjd{l:List RowD}(h:zgl t l=true):l.length<=60/\∀r∈l,fitF t r.vals=true/\isIn r.id 1 1000000000=true:=by
 simp only[zgl,Bool.and_eq_true,decide_eq_true_eq]at h;exact⟨O,wgl h.1⟩
theorem wjd{t:zd}:∀{l:List Val} {i:Nat},jdk t i l=true->∀v∈l,ju v=true
 |[],_,_,v,hv=>by simp at hv
 |a::l,i,h,v,hv=>by
  simp only[jdk,wgg,Bool.and_eq_true]at h;rcases List.mem_cons.1 hv with rfl|hv
  ·exact h.1.1
  ·exact wjd h.2 v hv
theorem wax{l:List Val}(h:fitF t l=true):l.length=t.cols.length/\∀v∈l,ju v=true:=by
 simp only[fitF,Bool.and_eq_true,decide_eq_true_eq]at h;exact⟨O,wjd h.2⟩
theorem zck{l:List Val}(h:fitF t l=true)(hc:t.cols.length<=8):jt l 16=true:=by
 obtain⟨h1,h2⟩:=wax h;simp only[jt,Bool.and_eq_true,decide_eq_true_eq,List.all_eq_true];exact⟨O,h2⟩
variable {S:Nat->Prop}{x:Ce}
theorem Has.shape(h:Has G S (.fz ys) x){i:Nat}(hi:i<ys.length):∃id v c,x=.sl id v 0 ys.length c:=by
 obtain⟨id,v,s,cs,junk,T,rfl,_⟩:=h.open O;exact⟨_,_,_,rfl⟩
variable {zs:List (List Ce)}
theorem Has.wr{id c:Nat}(h:Has G S (.fz (zs.set i e)) (.sl id v 0 n c))(hi:i<zs.length)(hj:j<e.length):
 ∃(es:List (List Ce)) (e':List Ce),G.get id=some (v,es)/\es[0+i]?=some e'/\e'.length=e.length/\S id/\
  ∀z,Flat z->Has (G.put id (v,es.set (0+i) (zj e' (0+j) [z]))) S (.fz (zs.set i (e.set j z))) (.sl id v 0 n c)/\
   (∀a,¬S a->(G.put id (v,es.set (0+i) (zj e' (0+j) [z]))).get a=G.get a)/\(G.put id (v,es.set (0+i) (zj e' (0+j) [z]))).next=G.next:=by
 have hi':i<(zs.set i e).length:=by simpa using hi
 have hii:(zs.set i e)[i]=e:=gx;obtain⟨id1,v1,c1,es,e',hx,hg,he,hel,hS,hw⟩:=h.write (i:=i) (j:=j) hi' (by rw[hii];exact hj);obtain⟨rfl,rfl,-⟩:=zkm hx;refine⟨es,e',hg,he,by rw[hel,hii],hS,λz hz=>⟨?_,λa ha=>jgc hS a ha,rfl⟩⟩;have:=hw z hz;rw[List.set_set,hii]at this;exact this
variable {y:Ce}
theorem Has.ch{id c:Nat}(h:Has G S (.fz (zs.set i e)) (.sl id v 0 n c))(hi:i<zs.length)(hj:j<e.length)(hy:e[j]=y):
 ∃(es:List (List Ce)) (e':List Ce) (T:Nat->Prop),G.get id=some (v,es)/\es[0+i]?=some e'/\e'.length=e.length/\(∀a,T a->S a)/\
  ∃hj':j<e'.length,Has G T y e'[j]/\∀G' y',(∀a,¬T a->G'.get a=G.get a)->Has G' T y' e'[j]->Has G' S (.fz (zs.set i (e.set j y'))) (.sl id v 0 n c):=by
 have hi':i<(zs.set i e).length:=by simpa using hi
 have hii:(zs.set i e)[i]=e:=gx;obtain⟨id1,v1,c1,es,e',T,hx,hg,he,hel,hTS,hj',hch,hback⟩:=h.child (i:=i) (j:=j) hi' (by rw[hii];exact hj);obtain⟨rfl,rfl,-⟩:=zkm hx;subst hy;refine⟨es,e',T,hg,he,by rw[hel,hii],hTS,hj', ?_,λG' y' hf hh=>?_⟩
 ·have e0:(zs.set i e)[i][j]'(by rw[hii];exact hj)=e[j]:=gx;rw[<-e0];exact hch
 ·have:=hback G' y' hf hh;rw[List.set_set,hii]at this;exact this
inductive Cnts:List (Int->Int)->Int->Prop where
 |nil:Cnts [] 0
 |cons {f:Int->Int} {r:List (Int->Int)} {c d:Int} (h:∀q,0<=q->0<=f q->c<=8*(q-f q)) (k:Cnts r d):Cnts (f::r) (c+d)
theorem zan{fs:List (Int->Int)}(h:Cnts fs c):∀l,0<=l->0<=j4 fs l->c<=8*(l-j4 fs l):=by
 induction h with
 |nil=>intro l _ _;simp only[j4];omega
 |@cons f r c d h _ ih=>
  intro l hl hc;simp only[j4]at hc⊢;split at hc
  ·omega
  ·rename_i h0;rw[if_neg h0];have:=h l hl O;have:=ih (f l) O hc;omega
theorem zgm{α:Type}{g:α->Int->Int}{c:α->Int}(hg:∀a l,0<=l->g a l<=l)(hc:∀a l,0<=l->0<=g a l->c a<=8*(l-g a l)+8):∀(xs:List α) (left:Int),0<=left->0<=jbs g xs left->cntL c xs<=8*(left-jbs g xs left)+8*xs.length
 |[],left,h,hs=>by simp[jbs,cntL]
 |a::r,left,h,hs=>by
  simp only[jbs]at hs⊢;split at hs
  ·omega
  ·rename_i h0;rw[if_neg h0];have h1:=zgm hg hc r (g a left) O hs;have h2:=hc a left h O;simp only[cntL,List.length_cons];omega
theorem zaf{g:α->Int->Int}{c:α->Int}(hg:∀a l,0<=l->g a l<=l)(hc:∀a l,0<=l->0<=g a l->c a<=8*(l-g a l)+8)(xs:List α)(left:Int)(h:0<=left)(hs:0<=szL g xs left):cntL c xs<=8*(left-szL g xs left):=by
 simp only[szL]at hs⊢;split at hs
 ·omega
 ·rename_i h0;rw[if_neg h0];have:=zgm hg hc xs (left-xs.length) O hs;omega
theorem zet(s:List UInt8):∀q:Int,0<=q->0<=q-s.length->(0:Int)<=8*(q-(q-s.length)):=λq _ _=>O
theorem zie(xs:List Int):∀q:Int,0<=q->0<=zI xs q->cntL (λ_=>1) xs<=8*(q-zI xs q):=λq _ h=>by
 simp only[zI]at h⊢;rw[cnt1];split at h
 ·omega
 ·rename_i h0;rw[if_neg h0];omega
theorem znt(v:Val)(l:Int)(h:0<=l)(hs:0<=szV v l):(3:Int)<=8*(l-szV v l)+8:=by
 have:=wcp v l h;omega
def jet(a:Tok)(k:Int):Tok:=⟨k,k+1,⟨k+1+1,k+1+1+1,wby (k+1+1+1+1)⟩⟩
def jx(a:Tok):Int:=5
theorem j5(a:Tok):0<=jx a:=by
 simp only[jx];omega
theorem zc4(a:Tok)(l:Int)(h:0<=l)(hs:0<=zTok a l):jx a<=8*(l-zTok a l)+8:=by
 have:=zan (fs:=[(szV a.v)]) (.cons (c:=0) (λq h hs=>by have:=wcp a.v q h;omega) .nil) l h hs;simp only[jx];simp only[zTok]at hs⊢;omega
theorem zbu(xs:List Tok)(k:Int)(hx:xs.length<=34359738368)(hb:∀a∈xs,bTok 34359738368 a)(hk0:0<=k)(hk:k+cntL jx xs<=34359738368):jdd Tryz.prog 99 (.fz (xs.map zh)) (.fz ((wz jet jx xs k).map zh)) k (k+cntL jx xs):=by
 refine wau mixed zd0 gz gz zh jet jx j5 xs k hx hk0 hk ?_;intro n0 rets R K G V S x i ni ki ys hi fr hn0 hyl hni hki0 hki1 h0 h1 h5 hmem hh hnext;have hi':i<(ys.map zh).length:=by simpa using hi
 have hyi:(ys.map zh)[i]=zh ys[i]:=gx;have hb:=hb _ hmem;obtain⟨id,v,c,rfl⟩:=hh.shape hi';have hh:Has V S (.fz ((ys.map zh).set i (zh ys[i]))) (.sl id v 0 (ys.map zh).length c):=by rw[<-hyi,yay];exact hh
 have hfr:∀a,¬S a->V.get a=V.get a:=λ_ _=>rfl;have hnx:V.next=V.next:=rfl;refine .same (waa h0 h1 h5) ?_;have hset:∀q,(ys.set i q).map zh=(ys.map zh).set i (zh q):=λq=>ybm;simp only[jx]at hki1;obtain⟨es0,e0,hg0,he0,hel0,hS0,hw0⟩:=hh.wr (j:=0) hi' gz;have hel0:e0.length=5:=hel0;obtain⟨hh,hf0,hn0⟩:=hw0 (.int .i64 ki) (.int _ _);have hfr:=λa (ha:¬S a)=>(hf0 a ha).trans (hfr a ha);have hnx:=hn0.trans hnx;repeat' first|(apply yA;exact rfl)|apply yB|apply yC|((first|apply yG|apply yH|apply yI);exact rfl;(first|exact rfl|exact je rfl rfl hni hi' hg0 he0 hel0|exact zk rfl rfl hg0 he0 (by omega)))|(apply yN;exact rfl)
 obtain⟨k0,hk0⟩:∃z,ki+1=z:=⟨_,rfl⟩;rw[show IntKind.i64.wrap (ki+1)=k0 by rw[jg O O];exact hk0];obtain⟨es1,e1,hg1,he1,hel1,hS1,hw1⟩:=hh.wr (j:=1) hi' gz;have hel1:e1.length=5:=hel1;obtain⟨hh,hf1,hn1⟩:=hw1 (.int .i64 k0) (.int _ _);have hfr:=λa (ha:¬S a)=>(hf1 a ha).trans (hfr a ha);have hnx:=hn1.trans hnx;repeat' first|(apply yA;exact rfl)|apply yB|apply yC|((first|apply yG|apply yH|apply yI);exact rfl;(first|exact rfl|exact je rfl rfl hni hi' hg1 he1 hel1|exact zk rfl rfl hg1 he1 (by omega)))|(apply yN;exact rfl)
 obtain⟨k1,hk1⟩:∃z,k0+1=z:=⟨_,rfl⟩;rw[show IntKind.i64.wrap (k0+1)=k1 by rw[jg O O];exact hk1];obtain⟨es2,e2,hg2,he2,hel2,hS2,hw2⟩:=hh.wr (j:=2) hi' gz;have hel2:e2.length=5:=hel2;obtain⟨hh,hf2,hn2⟩:=hw2 (.int .i64 k1) (.int _ _);have hfr:=λa (ha:¬S a)=>(hf2 a ha).trans (hfr a ha);have hnx:=hn2.trans hnx;repeat' first|(apply yA;exact rfl)|apply yB|apply yC|((first|apply yG|apply yH|apply yI);exact rfl;(first|exact rfl|exact je rfl rfl hni hi' hg2 he2 hel2|exact zk rfl rfl hg2 he2 (by omega)))|(apply yN;exact rfl)
 obtain⟨k2,hk2⟩:∃z,k1+1=z:=⟨_,rfl⟩;rw[show IntKind.i64.wrap (k1+1)=k2 by rw[jg O O];exact hk2];obtain⟨es3,e3,hg3,he3,hel3,hS3,hw3⟩:=hh.wr (j:=3) hi' gz;have hel3:e3.length=5:=hel3;obtain⟨hh,hf3,hn3⟩:=hw3 (.int .i64 k2) (.int _ _);have hfr:=λa (ha:¬S a)=>(hf3 a ha).trans (hfr a ha);have hnx:=hn3.trans hnx;repeat' first|(apply yA;exact rfl)|apply yB|apply yC|((first|apply yG|apply yH|apply yI);exact rfl;(first|exact rfl|exact je rfl rfl hni hi' hg3 he3 hel3|exact zk rfl rfl hg3 he3 (by omega)))|(apply yN;exact rfl)
 obtain⟨k3,hk3⟩:∃z,k2+1=z:=⟨_,rfl⟩;rw[show IntKind.i64.wrap (k2+1)=k3 by rw[jg O O];exact hk3];obtain⟨es4,e4,hg4,he4,hel4,hS4,hw4⟩:=hh.wr (j:=4) hi' gz;have hel4:e4.length=5:=hel4;obtain⟨hh,hf4,hn4⟩:=hw4 (.str (wby k3)) (.str _);have hfr:=λa (ha:¬S a)=>(hf4 a ha).trans (hfr a ha);have hnx:=hn4.trans hnx;repeat' first|(apply yA;exact rfl)|apply yB|apply yC|((first|apply yG|apply yH|apply yI);exact rfl;(first|exact rfl|exact je rfl rfl hni hi' hg4 he4 hel4|exact zk rfl rfl hg4 he4 (by omega)))|(apply yN;exact rfl)|((first|apply yQ|apply yR|apply yS);(iterate 3 exact rfl);exact zal _ (by omega))
 obtain⟨k4,hk4⟩:∃z,k3+1=z:=⟨_,rfl⟩;rw[show IntKind.i64.wrap (k3+1)=k4 by rw[jg O O];exact hk4];have hkend:k4=ki+jx ys[i]:=by simp only[jx];omega
 refine hnext _ _ rfl (congrArg (λz=>some (AV.c (Ce.int .i64 z))) hkend) rfl hnx hfr ?_;rw[hset];subst hk0 hk1 hk2 hk3 hk4;exact hh
def wj7(a:Chk)(k:Int):Chk:=⟨wz jet jx a.expr (k)⟩
def wba(a:Chk):Int:=0+cntL jx a.expr
theorem jck(a:Chk):0<=wba a:=by
 have:=ze (c:=jx) j5 a.expr;simp only[wba];omega
theorem zlz(a:Chk)(l:Int)(h:0<=l)(hs:0<=zChk a l):wba a<=8*(l-zChk a l)+8:=by
 have:=zan (fs:=[(szL zTok a.expr)]) (.cons (c:=cntL jx a.expr) (λq h hs=>zaf jag zc4 a.expr q h hs) .nil) l h hs;simp only[wba];simp only[zChk]at hs⊢;omega
theorem zj8(xs:List Chk)(k:Int)(hx:xs.length<=34359738368)(hb:∀a∈xs,bChk 34359738368 a)(hk0:0<=k)(hk:k+cntL wba xs<=34359738368):jdd Tryz.prog 97 (.fz (xs.map zx)) (.fz ((wz wj7 wba xs k).map zx)) k (k+cntL wba xs):=by
 refine wau mixed wdf gz gz zx wj7 wba jck xs k hx hk0 hk ?_;intro n0 rets R K G V S x i ni ki ys hi fr hn0 hyl hni hki0 hki1 h0 h1 h5 hmem hh hnext;have hi':i<(ys.map zx).length:=by simpa using hi
 have hyi:(ys.map zx)[i]=zx ys[i]:=gx;have hb:=hb _ hmem;obtain⟨id,v,c,rfl⟩:=hh.shape hi';have hh:Has V S (.fz ((ys.map zx).set i (zx ys[i]))) (.sl id v 0 (ys.map zx).length c):=by rw[<-hyi,yay];exact hh
 have hfr:∀a,¬S a->V.get a=V.get a:=λ_ _=>rfl;have hnx:V.next=V.next:=rfl;refine .same (waa h0 h1 h5) ?_;have hset:∀q,(ys.set i q).map zx=(ys.map zx).set i (zx q):=λq=>ybm;have hc0:=ze (c:=jx) j5 ys[i].expr;simp only[wba]at hki1;obtain⟨es0,e0,T0,hg0,he0,hel0,hTS0,hj0,hch0,hback0⟩:=hh.ch (j:=0) (y:=.fz (ys[i].expr.map zh)) hi' gz rfl;repeat' first|(apply yA;exact rfl)|apply yB|apply yC|((first|apply yG|apply yH|apply yI);exact rfl;(first|exact rfl|exact je rfl rfl hni hi' hg0 he0 hel0|exact wm rfl hg0 he0 (show 0+0<e0.length by omega)))|(apply yN;exact rfl)
 refine Go.call _ rfl rfl rfl ((zbu ys[i].expr ki hb.1 hb.2 O O).at_ _ T0 _ hch0) ?_;rintro r V0 ⟨rfl,hn0,hf0,hhc0⟩;have hh:=hback0 V0 _ hf0 hhc0;have hfr:=λa (ha:¬S a)=>(hf0 a (λh=>ha (hTS0 a h))).trans (hfr a ha);have hnx:=hn0.trans hnx;obtain⟨k0,hk0⟩:∃z,ki+cntL jx ys[i].expr=z:=⟨_,rfl⟩;rw[hk0];clear hg0 he0 hel0 hch0 hback0 hf0 hn0 hhc0;repeat' first|(apply yA;exact rfl)|apply yB|apply yC|((first|apply yG|apply yH|apply yI);exact rfl;(first|exact rfl))|(apply yN;exact rfl)
 have hkend:k0=ki+wba ys[i]:=by simp only[wba];omega
 refine hnext _ _ rfl (congrArg (λz=>some (AV.c (Ce.int .i64 z))) hkend) rfl hnx hfr ?_;rw[hset];subst hk0;exact hh
def jie(a:Uniq)(k:Int):Uniq:=⟨wz jlm (λ_=>1) a.cols (k)⟩
def jal(a:Uniq):Int:=0+cntL (λ_=>1) a.cols
theorem zb7(a:Uniq):0<=jal a:=by
 have:=ze (c:=(λ_=>1)) (λ_=>by decide) a.cols;simp only[jal];omega
theorem jk5(a:Uniq)(l:Int)(h:0<=l)(hs:0<=jds a l):jal a<=8*(l-jds a l)+8:=by
 have:=zan (fs:=[(zI a.cols)]) (.cons (c:=cntL (λ_=>1) a.cols) (zie a.cols) .nil) l h hs;simp only[jal];simp only[jds]at hs⊢;omega
theorem zje(xs:List Uniq)(k:Int)(hx:xs.length<=34359738368)(hb:∀a∈xs,wfj 34359738368 a)(hk0:0<=k)(hk:k+cntL jal xs<=34359738368):jdd Tryz.prog 96 (.fz (xs.map jo)) (.fz ((wz jie jal xs k).map jo)) k (k+cntL jal xs):=by
 refine wau mixed wcv gz gz jo jie jal zb7 xs k hx hk0 hk ?_;intro n0 rets R K G V S x i ni ki ys hi fr hn0 hyl hni hki0 hki1 h0 h1 h5 hmem hh hnext;have hi':i<(ys.map jo).length:=by simpa using hi
 have hyi:(ys.map jo)[i]=jo ys[i]:=gx;have hb:=hb _ hmem;obtain⟨id,v,c,rfl⟩:=hh.shape hi';have hh:Has V S (.fz ((ys.map jo).set i (jo ys[i]))) (.sl id v 0 (ys.map jo).length c):=by rw[<-hyi,yay];exact hh
 have hfr:∀a,¬S a->V.get a=V.get a:=λ_ _=>rfl;have hnx:V.next=V.next:=rfl;refine .same (waa h0 h1 h5) ?_;have hset:∀q,(ys.set i q).map jo=(ys.map jo).set i (jo q):=λq=>ybm;have hc0:=ze (c:=(λ_=>1)) (λ_=>by decide) ys[i].cols;simp only[jal]at hki1;obtain⟨es0,e0,T0,hg0,he0,hel0,hTS0,hj0,hch0,hback0⟩:=hh.ch (j:=0) (y:=.fz (ys[i].cols.map encI)) hi' gz rfl;repeat' first|(apply yA;exact rfl)|apply yB|apply yC|((first|apply yG|apply yH|apply yI);exact rfl;(first|exact rfl|exact je rfl rfl hni hi' hg0 he0 hel0|exact wm rfl hg0 he0 (show 0+0<e0.length by omega)))|(apply yN;exact rfl)
 refine Go.call _ rfl rfl rfl ((jch ys[i].cols ki hb  O O).at_ _ T0 _ hch0) ?_;rintro r V0 ⟨rfl,hn0,hf0,hhc0⟩;have hh:=hback0 V0 _ hf0 hhc0;have hfr:=λa (ha:¬S a)=>(hf0 a (λh=>ha (hTS0 a h))).trans (hfr a ha);have hnx:=hn0.trans hnx;obtain⟨k0,hk0⟩:∃z,ki+cntL (λ_=>1) ys[i].cols=z:=⟨_,rfl⟩;rw[hk0];clear hg0 he0 hel0 hch0 hback0 hf0 hn0 hhc0;repeat' first|(apply yA;exact rfl)|apply yB|apply yC|((first|apply yG|apply yH|apply yI);exact rfl;(first|exact rfl))|(apply yN;exact rfl)
 have hkend:k0=ki+jal ys[i]:=by simp only[jal];omega
 refine hnext _ _ rfl (congrArg (λz=>some (AV.c (Ce.int .i64 z))) hkend) rfl hnx hfr ?_;rw[hset];subst hk0;exact hh
def jlz(a:Fk)(k:Int):Fk:=⟨wz jlm (λ_=>1) a.cols (k),wby (k+cntL (λ_=>1) a.cols),k+cntL (λ_=>1) a.cols+1,k+cntL (λ_=>1) a.cols+1+1,(k+cntL (λ_=>1) a.cols+1+1+1).tmod 3==0⟩
def jc4(a:Fk):Int:=4+cntL (λ_=>1) a.cols
theorem wc4(a:Fk):0<=jc4 a:=by
 have:=ze (c:=(λ_=>1)) (λ_=>by decide) a.cols;simp only[jc4];omega
theorem wm2(a:Fk)(l:Int)(h:0<=l)(hs:0<=zFk a l):jc4 a<=8*(l-zFk a l)+8:=by
 have:=zan (fs:=[(zI a.cols),(λl=>l-a.table.length)]) (.cons (c:=cntL (λ_=>1) a.cols) (zie a.cols) (.cons (c:=0) (zet a.table) .nil)) l h hs;simp only[jc4];simp only[zFk]at hs⊢;omega
theorem wk5(xs:List Fk)(k:Int)(hx:xs.length<=34359738368)(hb:∀a∈xs,bFk 34359738368 a)(hk0:0<=k)(hk:k+cntL jc4 xs<=34359738368):jdd Tryz.prog 98 (.fz (xs.map j3)) (.fz ((wz jlz jc4 xs k).map j3)) k (k+cntL jc4 xs):=by
 refine wau mixed jel gz gz j3 jlz jc4 wc4 xs k hx hk0 hk ?_;intro n0 rets R K G V S x i ni ki ys hi fr hn0 hyl hni hki0 hki1 h0 h1 h5 hmem hh hnext;have hi':i<(ys.map j3).length:=by simpa using hi
 have hyi:(ys.map j3)[i]=j3 ys[i]:=gx;have hb:=hb _ hmem;obtain⟨id,v,c,rfl⟩:=hh.shape hi';have hh:Has V S (.fz ((ys.map j3).set i (j3 ys[i]))) (.sl id v 0 (ys.map j3).length c):=by rw[<-hyi,yay];exact hh
 have hfr:∀a,¬S a->V.get a=V.get a:=λ_ _=>rfl;have hnx:V.next=V.next:=rfl;refine .same (waa h0 h1 h5) ?_;have hset:∀q,(ys.set i q).map j3=(ys.map j3).set i (j3 q):=λq=>ybm;have hc0:=ze (c:=(λ_=>1)) (λ_=>by decide) ys[i].cols;simp only[jc4]at hki1;obtain⟨es0,e0,T0,hg0,he0,hel0,hTS0,hj0,hch0,hback0⟩:=hh.ch (j:=0) (y:=.fz (ys[i].cols.map encI)) hi' gz rfl;repeat' first|(apply yA;exact rfl)|apply yB|apply yC|((first|apply yG|apply yH|apply yI);exact rfl;(first|exact rfl|exact je rfl rfl hni hi' hg0 he0 hel0|exact wm rfl hg0 he0 (show 0+0<e0.length by omega)))|(apply yN;exact rfl)
 refine Go.call _ rfl rfl rfl ((jch ys[i].cols ki hb.1  O O).at_ _ T0 _ hch0) ?_;rintro r V0 ⟨rfl,hn0,hf0,hhc0⟩;have hh:=hback0 V0 _ hf0 hhc0;have hfr:=λa (ha:¬S a)=>(hf0 a (λh=>ha (hTS0 a h))).trans (hfr a ha);have hnx:=hn0.trans hnx;obtain⟨k0,hk0⟩:∃z,ki+cntL (λ_=>1) ys[i].cols=z:=⟨_,rfl⟩;rw[hk0];clear hg0 he0 hel0 hch0 hback0 hf0 hn0 hhc0;obtain⟨es1,e1,hg1,he1,hel1,hS1,hw1⟩:=hh.wr (j:=1) hi' gz;have hel1:e1.length=5:=hel1;obtain⟨hh,hf1,hn1⟩:=hw1 (.str (wby k0)) (.str _);have hfr:=λa (ha:¬S a)=>(hf1 a ha).trans (hfr a ha);have hnx:=hn1.trans hnx;repeat' first|(apply yA;exact rfl)|apply yB|apply yC|((first|apply yG|apply yH|apply yI);exact rfl;(first|exact rfl|exact je rfl rfl hni hi' hg1 he1 hel1|exact zk rfl rfl hg1 he1 (by omega)))|(apply yN;exact rfl)|((first|apply yQ|apply yR|apply yS);(iterate 3 exact rfl);exact zal _ (by omega))
 obtain⟨k1,hk1⟩:∃z,k0+1=z:=⟨_,rfl⟩;rw[show IntKind.i64.wrap (k0+1)=k1 by rw[jg O O];exact hk1];obtain⟨es2,e2,hg2,he2,hel2,hS2,hw2⟩:=hh.wr (j:=2) hi' gz;have hel2:e2.length=5:=hel2;obtain⟨hh,hf2,hn2⟩:=hw2 (.int .i64 k1) (.int _ _);have hfr:=λa (ha:¬S a)=>(hf2 a ha).trans (hfr a ha);have hnx:=hn2.trans hnx;repeat' first|(apply yA;exact rfl)|apply yB|apply yC|((first|apply yG|apply yH|apply yI);exact rfl;(first|exact rfl|exact je rfl rfl hni hi' hg2 he2 hel2|exact zk rfl rfl hg2 he2 (by omega)))|(apply yN;exact rfl)
 obtain⟨k2,hk2⟩:∃z,k1+1=z:=⟨_,rfl⟩;rw[show IntKind.i64.wrap (k1+1)=k2 by rw[jg O O];exact hk2];obtain⟨es3,e3,hg3,he3,hel3,hS3,hw3⟩:=hh.wr (j:=3) hi' gz;have hel3:e3.length=5:=hel3;obtain⟨hh,hf3,hn3⟩:=hw3 (.int .i64 k2) (.int _ _);have hfr:=λa (ha:¬S a)=>(hf3 a ha).trans (hfr a ha);have hnx:=hn3.trans hnx;repeat' first|(apply yA;exact rfl)|apply yB|apply yC|((first|apply yG|apply yH|apply yI);exact rfl;(first|exact rfl|exact je rfl rfl hni hi' hg3 he3 hel3|exact zk rfl rfl hg3 he3 (by omega)))|(apply yN;exact rfl)
 obtain⟨k3,hk3⟩:∃z,k2+1=z:=⟨_,rfl⟩;rw[show IntKind.i64.wrap (k2+1)=k3 by rw[jg O O];exact hk3];obtain⟨es4,e4,hg4,he4,hel4,hS4,hw4⟩:=hh.wr (j:=4) hi' gz;have hel4:e4.length=5:=hel4;obtain⟨hh,hf4,hn4⟩:=hw4 (.bool ((k3).tmod 3==0)) (.bool _);have hfr:=λa (ha:¬S a)=>(hf4 a ha).trans (hfr a ha);have hnx:=hn4.trans hnx;repeat' first|(apply yA;exact rfl)|apply yB|apply yC|((first|apply yG|apply yH|apply yI);exact rfl;(first|exact rfl|exact je rfl rfl hni hi' hg4 he4 hel4|exact zk rfl rfl hg4 he4 (by omega)|exact zgc rfl rfl (by decide)))|(apply yN;exact rfl)
 obtain⟨k4,hk4⟩:∃z,k3+1=z:=⟨_,rfl⟩;rw[show IntKind.i64.wrap (k3+1)=k4 by rw[jg O O];exact hk4];have hkend:k4=ki+jc4 ys[i]:=by simp only[jc4];omega
 refine hnext _ _ rfl (congrArg (λz=>some (AV.c (Ce.int .i64 z))) hkend) rfl hnx hfr ?_;rw[hset];subst hk0 hk1 hk2 hk3 hk4;exact hh
def jj8(a:Col)(k:Int):Col:=⟨wby (k),k+1,(k+1+1).tmod 3==0,⟨k+1+1+1,k+1+1+1+1,wby (k+1+1+1+1+1)⟩⟩
def zay(a:Col):Int:=6
theorem wck(a:Col):0<=zay a:=by
 simp only[zay];omega
theorem wlz(a:Col)(l:Int)(h:0<=l)(hs:0<=zCol a l):zay a<=8*(l-zCol a l)+8:=by
 have:=zan (fs:=[(λl=>l-a.name.length),(szV a.dflt)]) (.cons (c:=0) (zet a.name) (.cons (c:=0) (λq h hs=>by have:=wcp a.dflt q h;omega) .nil)) l h hs;simp only[zay];simp only[zCol]at hs⊢;omega
theorem wj8(xs:List Col)(k:Int)(hx:xs.length<=34359738368)(hb:∀a∈xs,bCol 34359738368 a)(hk0:0<=k)(hk:k+cntL zay xs<=34359738368):jdd Tryz.prog 94 (.fz (xs.map ji)) (.fz ((wz jj8 zay xs k).map ji)) k (k+cntL zay xs):=by
 refine wau mixed jdz gz gz ji jj8 zay wck xs k hx hk0 hk ?_;intro n0 rets R K G V S x i ni ki ys hi fr hn0 hyl hni hki0 hki1 h0 h1 h5 hmem hh hnext;have hi':i<(ys.map ji).length:=by simpa using hi
 have hyi:(ys.map ji)[i]=ji ys[i]:=gx;have hb:=hb _ hmem;obtain⟨id,v,c,rfl⟩:=hh.shape hi';have hh:Has V S (.fz ((ys.map ji).set i (ji ys[i]))) (.sl id v 0 (ys.map ji).length c):=by rw[<-hyi,yay];exact hh
 have hfr:∀a,¬S a->V.get a=V.get a:=λ_ _=>rfl;have hnx:V.next=V.next:=rfl;refine .same (waa h0 h1 h5) ?_;have hset:∀q,(ys.set i q).map ji=(ys.map ji).set i (ji q):=λq=>ybm;simp only[zay]at hki1;obtain⟨es0,e0,hg0,he0,hel0,hS0,hw0⟩:=hh.wr (j:=0) hi' gz;have hel0:e0.length=6:=hel0;obtain⟨hh,hf0,hn0⟩:=hw0 (.str (wby ki)) (.str _);have hfr:=λa (ha:¬S a)=>(hf0 a ha).trans (hfr a ha);have hnx:=hn0.trans hnx;repeat' first|(apply yA;exact rfl)|apply yB|apply yC|((first|apply yG|apply yH|apply yI);exact rfl;(first|exact rfl|exact je rfl rfl hni hi' hg0 he0 hel0|exact zk rfl rfl hg0 he0 (by omega)))|(apply yN;exact rfl)|((first|apply yQ|apply yR|apply yS);(iterate 3 exact rfl);exact zal _ (by omega))
 obtain⟨k0,hk0⟩:∃z,ki+1=z:=⟨_,rfl⟩;rw[show IntKind.i64.wrap (ki+1)=k0 by rw[jg O O];exact hk0];obtain⟨es1,e1,hg1,he1,hel1,hS1,hw1⟩:=hh.wr (j:=1) hi' gz;have hel1:e1.length=6:=hel1;obtain⟨hh,hf1,hn1⟩:=hw1 (.int .i64 k0) (.int _ _);have hfr:=λa (ha:¬S a)=>(hf1 a ha).trans (hfr a ha);have hnx:=hn1.trans hnx;repeat' first|(apply yA;exact rfl)|apply yB|apply yC|((first|apply yG|apply yH|apply yI);exact rfl;(first|exact rfl|exact je rfl rfl hni hi' hg1 he1 hel1|exact zk rfl rfl hg1 he1 (by omega)))|(apply yN;exact rfl)
 obtain⟨k1,hk1⟩:∃z,k0+1=z:=⟨_,rfl⟩;rw[show IntKind.i64.wrap (k0+1)=k1 by rw[jg O O];exact hk1];obtain⟨es2,e2,hg2,he2,hel2,hS2,hw2⟩:=hh.wr (j:=2) hi' gz;have hel2:e2.length=6:=hel2;obtain⟨hh,hf2,hn2⟩:=hw2 (.bool ((k1).tmod 3==0)) (.bool _);have hfr:=λa (ha:¬S a)=>(hf2 a ha).trans (hfr a ha);have hnx:=hn2.trans hnx;repeat' first|(apply yA;exact rfl)|apply yB|apply yC|((first|apply yG|apply yH|apply yI);exact rfl;(first|exact rfl|exact je rfl rfl hni hi' hg2 he2 hel2|exact zk rfl rfl hg2 he2 (by omega)|exact zgc rfl rfl (by decide)))|(apply yN;exact rfl)
 obtain⟨k2,hk2⟩:∃z,k1+1=z:=⟨_,rfl⟩;rw[show IntKind.i64.wrap (k1+1)=k2 by rw[jg O O];exact hk2];obtain⟨es3,e3,hg3,he3,hel3,hS3,hw3⟩:=hh.wr (j:=3) hi' gz;have hel3:e3.length=6:=hel3;obtain⟨hh,hf3,hn3⟩:=hw3 (.int .i64 k2) (.int _ _);have hfr:=λa (ha:¬S a)=>(hf3 a ha).trans (hfr a ha);have hnx:=hn3.trans hnx;repeat' first|(apply yA;exact rfl)|apply yB|apply yC|((first|apply yG|apply yH|apply yI);exact rfl;(first|exact rfl|exact je rfl rfl hni hi' hg3 he3 hel3|exact zk rfl rfl hg3 he3 (by omega)))|(apply yN;exact rfl)
 obtain⟨k3,hk3⟩:∃z,k2+1=z:=⟨_,rfl⟩;rw[show IntKind.i64.wrap (k2+1)=k3 by rw[jg O O];exact hk3];obtain⟨es4,e4,hg4,he4,hel4,hS4,hw4⟩:=hh.wr (j:=4) hi' gz;have hel4:e4.length=6:=hel4;obtain⟨hh,hf4,hn4⟩:=hw4 (.int .i64 k3) (.int _ _);have hfr:=λa (ha:¬S a)=>(hf4 a ha).trans (hfr a ha);have hnx:=hn4.trans hnx;repeat' first|(apply yA;exact rfl)|apply yB|apply yC|((first|apply yG|apply yH|apply yI);exact rfl;(first|exact rfl|exact je rfl rfl hni hi' hg4 he4 hel4|exact zk rfl rfl hg4 he4 (by omega)))|(apply yN;exact rfl)
 obtain⟨k4,hk4⟩:∃z,k3+1=z:=⟨_,rfl⟩;rw[show IntKind.i64.wrap (k3+1)=k4 by rw[jg O O];exact hk4];obtain⟨es5,e5,hg5,he5,hel5,hS5,hw5⟩:=hh.wr (j:=5) hi' gz;have hel5:e5.length=6:=hel5;obtain⟨hh,hf5,hn5⟩:=hw5 (.str (wby k4)) (.str _);have hfr:=λa (ha:¬S a)=>(hf5 a ha).trans (hfr a ha);have hnx:=hn5.trans hnx;repeat' first|(apply yA;exact rfl)|apply yB|apply yC|((first|apply yG|apply yH|apply yI);exact rfl;(first|exact rfl|exact je rfl rfl hni hi' hg5 he5 hel5|exact zk rfl rfl hg5 he5 (by omega)))|(apply yN;exact rfl)|((first|apply yQ|apply yR|apply yS);(iterate 3 exact rfl);exact zal _ (by omega))
 obtain⟨k5,hk5⟩:∃z,k4+1=z:=⟨_,rfl⟩;rw[show IntKind.i64.wrap (k4+1)=k5 by rw[jg O O];exact hk5];have hkend:k5=ki+zay ys[i]:=by simp only[zay];omega
 refine hnext _ _ rfl (congrArg (λz=>some (AV.c (Ce.int .i64 z))) hkend) rfl hnx hfr ?_;rw[hset];subst hk0 hk1 hk2 hk3 hk4 hk5;exact hh
def zcl(a:RowD)(k:Int):RowD:=⟨k,wz zky (λ_=>3) a.vals (k+1)⟩
def jn(a:RowD):Int:=1+cntL (λ_=>3) a.vals
theorem jaa(a:RowD):0<=jn a:=by
 have:=ze (c:=(λ_=>3)) (λ_=>by decide) a.vals;simp only[jn];omega
theorem whj(a:RowD)(l:Int)(h:0<=l)(hs:0<=zcc a l):jn a<=8*(l-zcc a l)+8:=by
 have:=zan (fs:=[(szL szV a.vals)]) (.cons (c:=cntL (λ_=>3) a.vals) (λq h hs=>zaf wcp znt a.vals q h hs) .nil) l h hs;simp only[jn];simp only[zcc]at hs⊢;omega
theorem je1(xs:List RowD)(k:Int)(hx:xs.length<=34359738368)(hb:∀a∈xs,wer 34359738368 a)(hk0:0<=k)(hk:k+cntL jn xs<=34359738368):jdd Tryz.prog 101 (.fz (xs.map jc)) (.fz ((wz zcl jn xs k).map jc)) k (k+cntL jn xs):=by
 refine wau mixed jd0 gz gz jc zcl jn jaa xs k hx hk0 hk ?_;intro n0 rets R K G V S x i ni ki ys hi fr hn0 hyl hni hki0 hki1 h0 h1 h5 hmem hh hnext;have hi':i<(ys.map jc).length:=by simpa using hi
 have hyi:(ys.map jc)[i]=jc ys[i]:=gx;have hb:=hb _ hmem;obtain⟨id,v,c,rfl⟩:=hh.shape hi';have hh:Has V S (.fz ((ys.map jc).set i (jc ys[i]))) (.sl id v 0 (ys.map jc).length c):=by rw[<-hyi,yay];exact hh
 have hfr:∀a,¬S a->V.get a=V.get a:=λ_ _=>rfl;have hnx:V.next=V.next:=rfl;refine .same (waa h0 h1 h5) ?_;have hset:∀q,(ys.set i q).map jc=(ys.map jc).set i (jc q):=λq=>ybm;have hc0:=ze (c:=(λ_=>3)) (λ_=>by decide) ys[i].vals;simp only[jn]at hki1;obtain⟨es0,e0,hg0,he0,hel0,hS0,hw0⟩:=hh.wr (j:=0) hi' gz;have hel0:e0.length=2:=hel0;obtain⟨hh,hf0,hn0⟩:=hw0 (.int .i64 ki) (.int _ _);have hfr:=λa (ha:¬S a)=>(hf0 a ha).trans (hfr a ha);have hnx:=hn0.trans hnx;repeat' first|(apply yA;exact rfl)|apply yB|apply yC|((first|apply yG|apply yH|apply yI);exact rfl;(first|exact rfl|exact je rfl rfl hni hi' hg0 he0 hel0|exact zk rfl rfl hg0 he0 (by omega)))|(apply yN;exact rfl)
 obtain⟨k0,hk0⟩:∃z,ki+1=z:=⟨_,rfl⟩;rw[show IntKind.i64.wrap (ki+1)=k0 by rw[jg O O];exact hk0];obtain⟨es1,e1,T1,hg1,he1,hel1,hTS1,hj1,hch1,hback1⟩:=hh.ch (j:=1) (y:=.fz (ys[i].vals.map encV)) hi' gz rfl;repeat' first|(apply yA;exact rfl)|apply yB|apply yC|((first|apply yG|apply yH|apply yI);exact rfl;(first|exact rfl|exact je rfl rfl hni hi' hg1 he1 hel1|exact wm rfl hg1 he1 (show 0+1<e1.length by omega)))|(apply yN;exact rfl)
 refine Go.call _ rfl rfl rfl ((zj1 ys[i].vals k0 hb.1 O O).at_ _ T1 _ hch1) ?_;rintro r V1 ⟨rfl,hn1,hf1,hhc1⟩;have hh:=hback1 V1 _ hf1 hhc1;have hfr:=λa (ha:¬S a)=>(hf1 a (λh=>ha (hTS1 a h))).trans (hfr a ha);have hnx:=hn1.trans hnx;obtain⟨k1,hk1⟩:∃z,k0+cntL (λ_=>3) ys[i].vals=z:=⟨_,rfl⟩;rw[hk1];clear hg1 he1 hel1 hch1 hback1 hf1 hn1 hhc1;repeat' first|(apply yA;exact rfl)|apply yB|apply yC|((first|apply yG|apply yH|apply yI);exact rfl;(first|exact rfl))|(apply yN;exact rfl)
 have hkend:k1=ki+jn ys[i]:=by simp only[jn];omega
 refine hnext _ _ rfl (congrArg (λz=>some (AV.c (Ce.int .i64 z))) hkend) rfl hnx hfr ?_;rw[hset];subst hk0 hk1;exact hh
def wbf(a:Data)(k:Int):Data:=⟨wz zcl jn a.rows (k)⟩
def wo(a:Data):Int:=0+cntL jn a.rows
theorem jay(a:Data):0<=wo a:=by
 have:=ze (c:=jn) jaa a.rows;simp only[wo];omega
theorem zk6(a:Data)(l:Int)(h:0<=l)(hs:0<=jes a l):wo a<=8*(l-jes a l)+8:=by
 have:=zan (fs:=[(szL zcc a.rows)]) (.cons (c:=cntL jn a.rows) (λq h hs=>zaf jbp whj a.rows q h hs) .nil) l h hs;simp only[wo];simp only[jes]at hs⊢;omega
theorem we1(xs:List Data)(k:Int)(hx:xs.length<=34359738368)(hb:∀a∈xs,jbz 34359738368 a)(hk0:0<=k)(hk:k+cntL wo xs<=34359738368):jdd Tryz.prog 27 (.fz (xs.map jb)) (.fz ((wz wbf wo xs k).map jb)) k (k+cntL wo xs):=by
 refine wau mixed wdn gz gz jb wbf wo jay xs k hx hk0 hk ?_;intro n0 rets R K G V S x i ni ki ys hi fr hn0 hyl hni hki0 hki1 h0 h1 h5 hmem hh hnext;have hi':i<(ys.map jb).length:=by simpa using hi
 have hyi:(ys.map jb)[i]=jb ys[i]:=gx;have hb:=hb _ hmem;obtain⟨id,v,c,rfl⟩:=hh.shape hi';have hh:Has V S (.fz ((ys.map jb).set i (jb ys[i]))) (.sl id v 0 (ys.map jb).length c):=by rw[<-hyi,yay];exact hh
 have hfr:∀a,¬S a->V.get a=V.get a:=λ_ _=>rfl;have hnx:V.next=V.next:=rfl;refine .same (waa h0 h1 h5) ?_;have hset:∀q,(ys.set i q).map jb=(ys.map jb).set i (jb q):=λq=>ybm;have hc0:=ze (c:=jn) jaa ys[i].rows;simp only[wo]at hki1;obtain⟨es0,e0,T0,hg0,he0,hel0,hTS0,hj0,hch0,hback0⟩:=hh.ch (j:=0) (y:=.fz (ys[i].rows.map jc)) hi' gz rfl;repeat' first|(apply yA;exact rfl)|apply yB|apply yC|((first|apply yG|apply yH|apply yI);exact rfl;(first|exact rfl|exact je rfl rfl hni hi' hg0 he0 hel0|exact wm rfl hg0 he0 (show 0+0<e0.length by omega)))|(apply yN;exact rfl)
 refine Go.call _ rfl rfl rfl ((je1 ys[i].rows ki hb.1 hb.2 O O).at_ _ T0 _ hch0) ?_;rintro r V0 ⟨rfl,hn0,hf0,hhc0⟩;have hh:=hback0 V0 _ hf0 hhc0;have hfr:=λa (ha:¬S a)=>(hf0 a (λh=>ha (hTS0 a h))).trans (hfr a ha);have hnx:=hn0.trans hnx;obtain⟨k0,hk0⟩:∃z,ki+cntL jn ys[i].rows=z:=⟨_,rfl⟩;rw[hk0];clear hg0 he0 hel0 hch0 hback0 hf0 hn0 hhc0;repeat' first|(apply yA;exact rfl)|apply yB|apply yC|((first|apply yG|apply yH|apply yI);exact rfl;(first|exact rfl))|(apply yN;exact rfl)
 have hkend:k0=ki+wo ys[i]:=by simp only[wo];omega
 refine hnext _ _ rfl (congrArg (λz=>some (AV.c (Ce.int .i64 z))) hkend) rfl hnx hfr ?_;rw[hset];subst hk0;exact hh
def jje(a:zd)(k:Int):zd:=⟨wby (k),wz jj8 zay a.cols (k+1),wz jlm (λ_=>1) a.key (k+1+cntL zay a.cols),wz jie jal a.uniques (k+1+cntL zay a.cols+cntL (λ_=>1) a.key),wz wj7 wba a.checks (k+1+cntL zay a.cols+cntL (λ_=>1) a.key+cntL jal a.uniques),wz jlz jc4 a.fks (k+1+cntL zay a.cols+cntL (λ_=>1) a.key+cntL jal a.uniques+cntL wba a.checks)⟩
def jav(a:zd):Int:=1+cntL zay a.cols+cntL (λ_=>1) a.key+cntL jal a.uniques+cntL wba a.checks+cntL jc4 a.fks
theorem zc5(a:zd):0<=jav a:=by
 have:=ze (c:=zay) wck a.cols;have:=ze (c:=(λ_=>1)) (λ_=>by decide) a.key;have:=ze (c:=jal) zb7 a.uniques;have:=ze (c:=wba) jck a.checks;have:=ze (c:=jc4) wc4 a.fks;simp only[jav];omega
theorem zj9(a:zd)(l:Int)(h:0<=l)(hs:0<=zba a l):jav a<=8*(l-zba a l)+8:=by
 have:=zan (fs:=[(λl=>l-a.name.length),(szL zCol a.cols),(zI a.key),(szL jds a.uniques),(szL zChk a.checks),(szL zFk a.fks)]) (.cons (c:=0) (zet a.name) (.cons (c:=cntL zay a.cols) (λq h hs=>zaf zge wlz a.cols q h hs) (.cons (c:=cntL (λ_=>1) a.key) (zie a.key) (.cons (c:=cntL jal a.uniques) (λq h hs=>zaf wd6 jk5 a.uniques q h hs) (.cons (c:=cntL wba a.checks) (λq h hs=>zaf jgd zlz a.checks q h hs) (.cons (c:=cntL jc4 a.fks) (λq h hs=>zaf ji9 wm2 a.fks q h hs) .nil)))))) l h hs;simp only[jav];simp only[zba]at hs⊢;omega
theorem wie(xs:List zd)(k:Int)(hx:xs.length<=34359738368)(hb:∀a∈xs,zah 34359738368 a)(hk0:0<=k)(hk:k+cntL jav xs<=34359738368):jdd Tryz.prog 25 (.fz (xs.map ja)) (.fz ((wz jje jav xs k).map ja)) k (k+cntL jav xs):=by
 refine wau mixed wde gz gz ja jje jav zc5 xs k hx hk0 hk ?_;intro n0 rets R K G V S x i ni ki ys hi fr hn0 hyl hni hki0 hki1 h0 h1 h5 hmem hh hnext;have hi':i<(ys.map ja).length:=by simpa using hi
 have hyi:(ys.map ja)[i]=ja ys[i]:=gx;have hb:=hb _ hmem;obtain⟨id,v,c,rfl⟩:=hh.shape hi';have hh:Has V S (.fz ((ys.map ja).set i (ja ys[i]))) (.sl id v 0 (ys.map ja).length c):=by rw[<-hyi,yay];exact hh
 have hfr:∀a,¬S a->V.get a=V.get a:=λ_ _=>rfl;have hnx:V.next=V.next:=rfl;refine .same (waa h0 h1 h5) ?_;have hset:∀q,(ys.set i q).map ja=(ys.map ja).set i (ja q):=λq=>ybm;have hc0:=ze (c:=zay) wck ys[i].cols;have hc1:=ze (c:=(λ_=>1)) (λ_=>by decide) ys[i].key;have hc2:=ze (c:=jal) zb7 ys[i].uniques;have hc3:=ze (c:=wba) jck ys[i].checks;have hc4:=ze (c:=jc4) wc4 ys[i].fks;simp only[jav]at hki1;obtain⟨es0,e0,hg0,he0,hel0,hS0,hw0⟩:=hh.wr (j:=0) hi' gz;have hel0:e0.length=6:=hel0;obtain⟨hh,hf0,hn0⟩:=hw0 (.str (wby ki)) (.str _);have hfr:=λa (ha:¬S a)=>(hf0 a ha).trans (hfr a ha);have hnx:=hn0.trans hnx;repeat' first|(apply yA;exact rfl)|apply yB|apply yC|((first|apply yG|apply yH|apply yI);exact rfl;(first|exact rfl|exact je rfl rfl hni hi' hg0 he0 hel0|exact zk rfl rfl hg0 he0 (by omega)))|(apply yN;exact rfl)|((first|apply yQ|apply yR|apply yS);(iterate 3 exact rfl);exact zal _ (by omega))
 obtain⟨k0,hk0⟩:∃z,ki+1=z:=⟨_,rfl⟩;rw[show IntKind.i64.wrap (ki+1)=k0 by rw[jg O O];exact hk0];obtain⟨es1,e1,T1,hg1,he1,hel1,hTS1,hj1,hch1,hback1⟩:=hh.ch (j:=1) (y:=.fz (ys[i].cols.map ji)) hi' gz rfl;repeat' first|(apply yA;exact rfl)|apply yB|apply yC|((first|apply yG|apply yH|apply yI);exact rfl;(first|exact rfl|exact je rfl rfl hni hi' hg1 he1 hel1|exact wm rfl hg1 he1 (show 0+1<e1.length by omega)))|(apply yN;exact rfl)
 refine Go.call _ rfl rfl rfl ((wj8 ys[i].cols k0 hb.2.1.1 hb.2.1.2 O O).at_ _ T1 _ hch1) ?_;rintro r V1 ⟨rfl,hn1,hf1,hhc1⟩;have hh:=hback1 V1 _ hf1 hhc1;have hfr:=λa (ha:¬S a)=>(hf1 a (λh=>ha (hTS1 a h))).trans (hfr a ha);have hnx:=hn1.trans hnx;obtain⟨k1,hk1⟩:∃z,k0+cntL zay ys[i].cols=z:=⟨_,rfl⟩;rw[hk1];clear hg1 he1 hel1 hch1 hback1 hf1 hn1 hhc1;obtain⟨es2,e2,T2,hg2,he2,hel2,hTS2,hj2,hch2,hback2⟩:=hh.ch (j:=2) (y:=.fz (ys[i].key.map encI)) hi' gz rfl;repeat' first|(apply yA;exact rfl)|apply yB|apply yC|((first|apply yG|apply yH|apply yI);exact rfl;(first|exact rfl|exact je rfl rfl hni hi' hg2 he2 hel2|exact wm rfl hg2 he2 (show 0+2<e2.length by omega)))|(apply yN;exact rfl)
 refine Go.call _ rfl rfl rfl ((jch ys[i].key k1 hb.2.2.1  O O).at_ _ T2 _ hch2) ?_;rintro r V2 ⟨rfl,hn2,hf2,hhc2⟩;have hh:=hback2 V2 _ hf2 hhc2;have hfr:=λa (ha:¬S a)=>(hf2 a (λh=>ha (hTS2 a h))).trans (hfr a ha);have hnx:=hn2.trans hnx;obtain⟨k2,hk2⟩:∃z,k1+cntL (λ_=>1) ys[i].key=z:=⟨_,rfl⟩;rw[hk2];clear hg2 he2 hel2 hch2 hback2 hf2 hn2 hhc2;obtain⟨es3,e3,T3,hg3,he3,hel3,hTS3,hj3,hch3,hback3⟩:=hh.ch (j:=3) (y:=.fz (ys[i].uniques.map jo)) hi' gz rfl;repeat' first|(apply yA;exact rfl)|apply yB|apply yC|((first|apply yG|apply yH|apply yI);exact rfl;(first|exact rfl|exact je rfl rfl hni hi' hg3 he3 hel3|exact wm rfl hg3 he3 (show 0+3<e3.length by omega)))|(apply yN;exact rfl)
 refine Go.call _ rfl rfl rfl ((zje ys[i].uniques k2 hb.2.2.2.1.1 hb.2.2.2.1.2 O O).at_ _ T3 _ hch3) ?_;rintro r V3 ⟨rfl,hn3,hf3,hhc3⟩;have hh:=hback3 V3 _ hf3 hhc3;have hfr:=λa (ha:¬S a)=>(hf3 a (λh=>ha (hTS3 a h))).trans (hfr a ha);have hnx:=hn3.trans hnx;obtain⟨k3,hk3⟩:∃z,k2+cntL jal ys[i].uniques=z:=⟨_,rfl⟩;rw[hk3];clear hg3 he3 hel3 hch3 hback3 hf3 hn3 hhc3;obtain⟨es4,e4,T4,hg4,he4,hel4,hTS4,hj4,hch4,hback4⟩:=hh.ch (j:=4) (y:=.fz (ys[i].checks.map zx)) hi' gz rfl;repeat' first|(apply yA;exact rfl)|apply yB|apply yC|((first|apply yG|apply yH|apply yI);exact rfl;(first|exact rfl|exact je rfl rfl hni hi' hg4 he4 hel4|exact wm rfl hg4 he4 (show 0+4<e4.length by omega)))|(apply yN;exact rfl)
 refine Go.call _ rfl rfl rfl ((zj8 ys[i].checks k3 hb.2.2.2.2.1.1 hb.2.2.2.2.1.2 O O).at_ _ T4 _ hch4) ?_;rintro r V4 ⟨rfl,hn4,hf4,hhc4⟩;have hh:=hback4 V4 _ hf4 hhc4;have hfr:=λa (ha:¬S a)=>(hf4 a (λh=>ha (hTS4 a h))).trans (hfr a ha);have hnx:=hn4.trans hnx;obtain⟨k4,hk4⟩:∃z,k3+cntL wba ys[i].checks=z:=⟨_,rfl⟩;rw[hk4];clear hg4 he4 hel4 hch4 hback4 hf4 hn4 hhc4;obtain⟨es5,e5,T5,hg5,he5,hel5,hTS5,hj5,hch5,hback5⟩:=hh.ch (j:=5) (y:=.fz (ys[i].fks.map j3)) hi' gz rfl;repeat' first|(apply yA;exact rfl)|apply yB|apply yC|((first|apply yG|apply yH|apply yI);exact rfl;(first|exact rfl|exact je rfl rfl hni hi' hg5 he5 hel5|exact wm rfl hg5 he5 (show 0+5<e5.length by omega)))|(apply yN;exact rfl)
 refine Go.call _ rfl rfl rfl ((wk5 ys[i].fks k4 hb.2.2.2.2.2.1 hb.2.2.2.2.2.2 O O).at_ _ T5 _ hch5) ?_;rintro r V5 ⟨rfl,hn5,hf5,hhc5⟩;have hh:=hback5 V5 _ hf5 hhc5;have hfr:=λa (ha:¬S a)=>(hf5 a (λh=>ha (hTS5 a h))).trans (hfr a ha);have hnx:=hn5.trans hnx;obtain⟨k5,hk5⟩:∃z,k4+cntL jc4 ys[i].fks=z:=⟨_,rfl⟩;rw[hk5];clear hg5 he5 hel5 hch5 hback5 hf5 hn5 hhc5;repeat' first|(apply yA;exact rfl)|apply yB|apply yC|((first|apply yG|apply yH|apply yI);exact rfl;(first|exact rfl))|(apply yN;exact rfl)
 have hkend:k5=ki+jav ys[i]:=by simp only[jav];omega
 refine hnext _ _ rfl (congrArg (λz=>some (AV.c (Ce.int .i64 z))) hkend) rfl hnx hfr ?_;rw[hset];subst hk0 hk1 hk2 hk3 hk4 hk5;exact hh
def zif(a:Term)(k:Int):Term:=⟨wz jet jx a.expr (k)⟩
def zas(a:Term):Int:=0+cntL jx a.expr
theorem jb7(a:Term):0<=zas a:=by
 have:=ze (c:=jx) j5 a.expr;simp only[zas];omega
theorem jk6(a:Term)(l:Int)(h:0<=l)(hs:0<=zdt a l):zas a<=8*(l-zdt a l)+8:=by
 have:=zan (fs:=[(szL zTok a.expr)]) (.cons (c:=cntL jx a.expr) (λq h hs=>zaf jag zc4 a.expr q h hs) .nil) l h hs;simp only[zas];simp only[zdt]at hs⊢;omega
theorem wje(xs:List Term)(k:Int)(hx:xs.length<=34359738368)(hb:∀a∈xs,zeq 34359738368 a)(hk0:0<=k)(hk:k+cntL zas xs<=34359738368):jdd Tryz.prog 100 (.fz (xs.map zn)) (.fz ((wz zif zas xs k).map zn)) k (k+cntL zas xs):=by
 refine wau mixed wdo gz gz zn zif zas jb7 xs k hx hk0 hk ?_;intro n0 rets R K G V S x i ni ki ys hi fr hn0 hyl hni hki0 hki1 h0 h1 h5 hmem hh hnext;have hi':i<(ys.map zn).length:=by simpa using hi
 have hyi:(ys.map zn)[i]=zn ys[i]:=gx;have hb:=hb _ hmem;obtain⟨id,v,c,rfl⟩:=hh.shape hi';have hh:Has V S (.fz ((ys.map zn).set i (zn ys[i]))) (.sl id v 0 (ys.map zn).length c):=by rw[<-hyi,yay];exact hh
 have hfr:∀a,¬S a->V.get a=V.get a:=λ_ _=>rfl;have hnx:V.next=V.next:=rfl;refine .same (waa h0 h1 h5) ?_;have hset:∀q,(ys.set i q).map zn=(ys.map zn).set i (zn q):=λq=>ybm;have hc0:=ze (c:=jx) j5 ys[i].expr;simp only[zas]at hki1;obtain⟨es0,e0,T0,hg0,he0,hel0,hTS0,hj0,hch0,hback0⟩:=hh.ch (j:=0) (y:=.fz (ys[i].expr.map zh)) hi' gz rfl;repeat' first|(apply yA;exact rfl)|apply yB|apply yC|((first|apply yG|apply yH|apply yI);exact rfl;(first|exact rfl|exact je rfl rfl hni hi' hg0 he0 hel0|exact wm rfl hg0 he0 (show 0+0<e0.length by omega)))|(apply yN;exact rfl)
 refine Go.call _ rfl rfl rfl ((zbu ys[i].expr ki hb.1 hb.2 O O).at_ _ T0 _ hch0) ?_;rintro r V0 ⟨rfl,hn0,hf0,hhc0⟩;have hh:=hback0 V0 _ hf0 hhc0;have hfr:=λa (ha:¬S a)=>(hf0 a (λh=>ha (hTS0 a h))).trans (hfr a ha);have hnx:=hn0.trans hnx;obtain⟨k0,hk0⟩:∃z,ki+cntL jx ys[i].expr=z:=⟨_,rfl⟩;rw[hk0];clear hg0 he0 hel0 hch0 hback0 hf0 hn0 hhc0;repeat' first|(apply yA;exact rfl)|apply yB|apply yC|((first|apply yG|apply yH|apply yI);exact rfl;(first|exact rfl))|(apply yN;exact rfl)
 have hkend:k0=ki+zas ys[i]:=by simp only[zas];omega
 refine hnext _ _ rfl (congrArg (λz=>some (AV.c (Ce.int .i64 z))) hkend) rfl hnx hfr ?_;rw[hset];subst hk0;exact hh
def jgm(a:we)(k:Int):we:=⟨wby (k),k+1,wz jet jx a.when_ (k+1+1),wby (k+1+1+cntL jx a.when_),wz zif zas a.terms (k+1+1+cntL jx a.when_+1)⟩
def zab(a:we):Int:=3+cntL jx a.when_+cntL zas a.terms
theorem wcc(a:we):0<=zab a:=by
 have:=ze (c:=jx) j5 a.when_;have:=ze (c:=zas) jb7 a.terms;simp only[zab];omega
theorem jif(a:we)(l:Int)(h:0<=l)(hs:0<=wah a l):zab a<=8*(l-wah a l)+8:=by
 have:=zan (fs:=[(λl=>l-a.table.length),(szL zTok a.when_),(λl=>l-a.into.length),(szL zdt a.terms)]) (.cons (c:=0) (zet a.table) (.cons (c:=cntL jx a.when_) (λq h hs=>zaf jag zc4 a.when_ q h hs) (.cons (c:=0) (zet a.into) (.cons (c:=cntL zas a.terms) (λq h hs=>zaf jd7 jk6 a.terms q h hs) .nil)))) l h hs;simp only[zab];simp only[wah]at hs⊢;omega
theorem wgm(xs:List we)(k:Int)(hx:xs.length<=34359738368)(hb:∀a∈xs,w9 34359738368 a)(hk0:0<=k)(hk:k+cntL zab xs<=34359738368):jdd Tryz.prog 26 (.fz (xs.map wc)) (.fz ((wz jgm zab xs k).map wc)) k (k+cntL zab xs):=by
 refine wau mixed jcr gz gz wc jgm zab wcc xs k hx hk0 hk ?_;intro n0 rets R K G V S x i ni ki ys hi fr hn0 hyl hni hki0 hki1 h0 h1 h5 hmem hh hnext;have hi':i<(ys.map wc).length:=by simpa using hi
 have hyi:(ys.map wc)[i]=wc ys[i]:=gx;have hb:=hb _ hmem;obtain⟨id,v,c,rfl⟩:=hh.shape hi';have hh:Has V S (.fz ((ys.map wc).set i (wc ys[i]))) (.sl id v 0 (ys.map wc).length c):=by rw[<-hyi,yay];exact hh
 have hfr:∀a,¬S a->V.get a=V.get a:=λ_ _=>rfl;have hnx:V.next=V.next:=rfl;refine .same (waa h0 h1 h5) ?_;have hset:∀q,(ys.set i q).map wc=(ys.map wc).set i (wc q):=λq=>ybm;have hc0:=ze (c:=jx) j5 ys[i].when_;have hc1:=ze (c:=zas) jb7 ys[i].terms;simp only[zab]at hki1;obtain⟨es0,e0,hg0,he0,hel0,hS0,hw0⟩:=hh.wr (j:=0) hi' gz;have hel0:e0.length=5:=hel0;obtain⟨hh,hf0,hn0⟩:=hw0 (.str (wby ki)) (.str _);have hfr:=λa (ha:¬S a)=>(hf0 a ha).trans (hfr a ha);have hnx:=hn0.trans hnx;repeat' first|(apply yA;exact rfl)|apply yB|apply yC|((first|apply yG|apply yH|apply yI);exact rfl;(first|exact rfl|exact je rfl rfl hni hi' hg0 he0 hel0|exact zk rfl rfl hg0 he0 (by omega)))|(apply yN;exact rfl)|((first|apply yQ|apply yR|apply yS);(iterate 3 exact rfl);exact zal _ (by omega))
 obtain⟨k0,hk0⟩:∃z,ki+1=z:=⟨_,rfl⟩;rw[show IntKind.i64.wrap (ki+1)=k0 by rw[jg O O];exact hk0];obtain⟨es1,e1,hg1,he1,hel1,hS1,hw1⟩:=hh.wr (j:=1) hi' gz;have hel1:e1.length=5:=hel1;obtain⟨hh,hf1,hn1⟩:=hw1 (.int .i64 k0) (.int _ _);have hfr:=λa (ha:¬S a)=>(hf1 a ha).trans (hfr a ha);have hnx:=hn1.trans hnx;repeat' first|(apply yA;exact rfl)|apply yB|apply yC|((first|apply yG|apply yH|apply yI);exact rfl;(first|exact rfl|exact je rfl rfl hni hi' hg1 he1 hel1|exact zk rfl rfl hg1 he1 (by omega)))|(apply yN;exact rfl)
 obtain⟨k1,hk1⟩:∃z,k0+1=z:=⟨_,rfl⟩;rw[show IntKind.i64.wrap (k0+1)=k1 by rw[jg O O];exact hk1];obtain⟨es2,e2,T2,hg2,he2,hel2,hTS2,hj2,hch2,hback2⟩:=hh.ch (j:=2) (y:=.fz (ys[i].when_.map zh)) hi' gz rfl;repeat' first|(apply yA;exact rfl)|apply yB|apply yC|((first|apply yG|apply yH|apply yI);exact rfl;(first|exact rfl|exact je rfl rfl hni hi' hg2 he2 hel2|exact wm rfl hg2 he2 (show 0+2<e2.length by omega)))|(apply yN;exact rfl)
 refine Go.call _ rfl rfl rfl ((zbu ys[i].when_ k1 hb.2.1.1 hb.2.1.2 O O).at_ _ T2 _ hch2) ?_;rintro r V2 ⟨rfl,hn2,hf2,hhc2⟩;have hh:=hback2 V2 _ hf2 hhc2;have hfr:=λa (ha:¬S a)=>(hf2 a (λh=>ha (hTS2 a h))).trans (hfr a ha);have hnx:=hn2.trans hnx;obtain⟨k2,hk2⟩:∃z,k1+cntL jx ys[i].when_=z:=⟨_,rfl⟩;rw[hk2];clear hg2 he2 hel2 hch2 hback2 hf2 hn2 hhc2;obtain⟨es3,e3,hg3,he3,hel3,hS3,hw3⟩:=hh.wr (j:=3) hi' gz;have hel3:e3.length=5:=hel3;obtain⟨hh,hf3,hn3⟩:=hw3 (.str (wby k2)) (.str _);have hfr:=λa (ha:¬S a)=>(hf3 a ha).trans (hfr a ha);have hnx:=hn3.trans hnx;repeat' first|(apply yA;exact rfl)|apply yB|apply yC|((first|apply yG|apply yH|apply yI);exact rfl;(first|exact rfl|exact je rfl rfl hni hi' hg3 he3 hel3|exact zk rfl rfl hg3 he3 (by omega)))|(apply yN;exact rfl)|((first|apply yQ|apply yR|apply yS);(iterate 3 exact rfl);exact zal _ (by omega))
 obtain⟨k3,hk3⟩:∃z,k2+1=z:=⟨_,rfl⟩;rw[show IntKind.i64.wrap (k2+1)=k3 by rw[jg O O];exact hk3];obtain⟨es4,e4,T4,hg4,he4,hel4,hTS4,hj4,hch4,hback4⟩:=hh.ch (j:=4) (y:=.fz (ys[i].terms.map zn)) hi' gz rfl;repeat' first|(apply yA;exact rfl)|apply yB|apply yC|((first|apply yG|apply yH|apply yI);exact rfl;(first|exact rfl|exact je rfl rfl hni hi' hg4 he4 hel4|exact wm rfl hg4 he4 (show 0+4<e4.length by omega)))|(apply yN;exact rfl)
 refine Go.call _ rfl rfl rfl ((wje ys[i].terms k3 hb.2.2.2.1 hb.2.2.2.2 O O).at_ _ T4 _ hch4) ?_;rintro r V4 ⟨rfl,hn4,hf4,hhc4⟩;have hh:=hback4 V4 _ hf4 hhc4;have hfr:=λa (ha:¬S a)=>(hf4 a (λh=>ha (hTS4 a h))).trans (hfr a ha);have hnx:=hn4.trans hnx;obtain⟨k4,hk4⟩:∃z,k3+cntL zas ys[i].terms=z:=⟨_,rfl⟩;rw[hk4];clear hg4 he4 hel4 hch4 hback4 hf4 hn4 hhc4;repeat' first|(apply yA;exact rfl)|apply yB|apply yC|((first|apply yG|apply yH|apply yI);exact rfl;(first|exact rfl))|(apply yN;exact rfl)
 have hkend:k4=ki+zab ys[i]:=by simp only[zab];omega
 refine hnext _ _ rfl (congrArg (λz=>some (AV.c (Ce.int .i64 z))) hkend) rfl hnx hfr ?_;rw[hset];subst hk0 hk1 hk2 hk3 hk4;exact hh
theorem wet{x y:Opd}(hx:x.ev fr=some (.c (.bool b)))(hy:y.ev fr=some (.c (.bool b))):aop (.eq true false [.b] x y) fr G=some (.c (.bool false),G):=by
 cases b<;>simp[aop,hx,hy,eqKs,eqK]
variable {V:wa}
theorem zjf:FrzV V G.next (.c (.bool b)) (.c (.bool b)):=.refl (by intro y hy;simp[AV.all]at hy;subst hy;exact .bool _)
variable {r:AV}
theorem New.openC(h:New G y r V):∃x,r=.c x/\Gr G V/\Has V (λa=>G.next<=a/\a<V.next) y x:=by
 obtain⟨x,l,rfl,rfl,ht,hh⟩:=h;exact⟨x,rfl,⟨l,rfl,ht⟩,hh⟩
theorem NewL.openC{ys:List Ce}(h:NewL G ys r V):∃xs,r=.agg xs/\Gr G V/\HasL V (λa=>G.next<=a/\a<V.next) ys xs:=by
 obtain⟨x,l,rfl,rfl,ht,hh⟩:=h;exact⟨x,rfl,⟨l,rfl,ht⟩,hh⟩
theorem zm3(hf:Flat y)(h:Has G S y x):x=y:=by
 cases hf<;>(cases h;rfl)
theorem zgn{x:AV}(hf:Flat y)(h:HasV G S (.c y) x):x=.c y:=by
 cases h with
 |c h=>rw[zm3 hf h]
theorem jgn{ys:List AV}(h:NewV G (.tup ys) r V):∃xs,∃U:Nat->Nat->Prop,∃hl:xs.length=ys.length,r=.tup xs/\Gr G V/\(∀i a,U i a->G.next<=a/\a<V.next)/\∀i (hy:i<ys.length) (hx:i<xs.length),HasV V (U i) ys[i] xs[i]:=by
 obtain⟨hg,hh⟩:=h;generalize hy0:AV.tup ys=y0 at hh
 cases hh with
 |c h=>cases hy0
 |agg h=>cases hy0
 |@tup S ys' xs U hl hU hd h=>
  injection hy0 with hy0;subst hy0;exact⟨xs,U,hl,rfl,hg,λi a ha=>hU i a ha,h⟩
theorem zl0{f:Ce}(hf:Flat f)(h:NewV G (.tup [.c y,.c f]) r V):∃x,r=.tup [.c x,.c f]/\Gr G V/\Has V (λa=>G.next<=a/\a<V.next) y x:=by
 obtain⟨xs,U,hl,rfl,hg,hU,h⟩:=jgn h
 match xs,hl with
 |[x1,x2],_=>
  have h1:=h 0 gx gx;have h2:=h 1 gx gx;simp only[List.getElem_cons_zero,List.getElem_cons_succ]at h1 h2;obtain rfl:=zgn hf h2
  cases h1 with
  |c h1=>exact⟨_,rfl,hg,h1.mono λa ha=>hU 0 a ha⟩
theorem jjf{f g:Ce}(hf:Flat f)(hg':Flat g)(h:NewV G (.tup [.c y,.c f,.c g]) r V):∃x,r=.tup [.c x,.c f,.c g]/\Gr G V/\Has V (λa=>G.next<=a/\a<V.next) y x:=by
 obtain⟨xs,U,hl,rfl,hg,hU,h⟩:=jgn h
 match xs,hl with
 |[x1,x2,x3],_=>
  have h1:=h 0 gx gx;have h2:=h 1 gx gx;have h3:=h 2 gx gx;simp only[List.getElem_cons_zero,List.getElem_cons_succ]at h1 h2 h3;obtain rfl:=zgn hf h2;obtain rfl:=zgn hg' h3
  cases h1 with
  |c h1=>exact⟨_,rfl,hg,h1.mono λa ha=>hU 0 a ha⟩
theorem jnt{f:Ce}(h:Flat f):HasV V S (.c f) (.c f):=.c (.c h)
theorem zeu{f:Ce}(hf:Flat f)(h:NewV G (.c y) (.c x) V):NewV G (.tup [.c y,.c f]) (.tup [.c x,.c f]) V:=
 ⟨h.1,.pair h.2 (jnt (S:=λ_=>False) hf) (λ_ h=>h) (λ_ h=>h.elim) (λ_ _ h=>h)⟩
theorem wnf(g:Gr G V):NewV G (.c (.fz [])) (.c .nils) V:=⟨g,.c .nil⟩
theorem zcq{s:Nat}(hy:∀e∈ys,e.length=s/\∀x∈e,Flat x)(hj:Jk s junk):NewV G (.c (.fz ys)) (.c (vec (G.next+0) v ys junk)) (E G [(v,ys++junk)]):=
 (Made.new hy (r:=.c (vec (G.next+0) v ys junk)) ⟨v,junk,hj,rfl,rfl⟩).v
theorem jl0(h:∀e∈es,∀x∈e,Flat x):Gr G (E G [(v,es)]):=
 ⟨_,rfl,λb hb e he x hx=>by rw[List.mem_singleton.1 hb]at he;exact .flat (h e he x hx)⟩
theorem zkp{s:Nat}(hy:∀e∈ys,e.length=s/\∀x∈e,Flat x)(hj:Jk s junk):∀e∈ys++junk,∀x∈e,Flat x:=λe he=>(List.mem_append.1 he).elim (λh=>(hy e h).2) λh=>(hj e h).2
def isM(w:List Tok)(r:RowD):Int:=if 0<w.length then jcb w r.vals else 1
def wal(w:List Tok):List RowD->List Int->Option (List Int)
 |[],acc=>some acc
 |r::l,acc=>if isM w r=-1 then none else wal w l (if isM w r=1 then acc++[r.id]else acc)
def wak(l:List RowD)(w:List Tok):List Int×Bool:=match wal w l []with|some ids=>(ids,true)|none=>([],false)
variable {xs:List Int}
theorem jas:∀e∈xs.map encI,e.length=1/\∀x∈e,Flat x:=wmp xs
theorem jj9(l:List RowD)(w:List Tok)(hx:l.length<=1048576)(hb:∀r∈l,r.vals.length<=34359738368)(hw:w.length<=34359738368)(G:wa):Ok Tryz.prog 143 [.c (.fz (l.map jc)),.c (.fz (w.map zh))] G (NewV G (.tup [.c (.fz ((wak l w).1.map encI)),.c (.bool (wak l w).2)])):=by
 refine Ok.run mixed zd1 gz λhS hA=>?_;clear hS hA;repeat' first|refine X ?_|exact yaF|refine Y ?_ ?_<;>intro _
 refine Go.keep [1,6,11,12,13] (Go.loops (I:=λm fr V=>∃(i:Nat) (k:Int) (ids:List Int) (v:Nat) (junk:List (List Ce)),m=l.length-i/\i<=l.length/\k=i/\Jk 1 junk/\(ids.length<=i/\wal w l []=wal w (l.drop i) ids)/\
  fr=[(1,.c (.fz (w.map zh))),(6,.c (vec (G.next+0) v (ids.map encI) junk)),(11,.c (.fz (l.map jc))),(12,.c (.int .i64 (l.length:Int))),(13,.c (.int .i64 k))]/\V=E G [(v,ids.map encI++junk)]) ?_ _ _ _ ⟨0,_,[],0,[],rfl,yad _,rfl,Jk.nil,⟨yad _,rfl⟩,rfl,rfl⟩)
 rintro m fr V ⟨i,k,ids,v,junk,rfl,hi,hk,hj,⟨hil,hs⟩,rfl,rfl⟩ hrec;by_cases hlt:i<l.length
 ·have hv:=hb _ (yaa hlt);rw[yab hlt,wal,isM]at hs;have hbd:((ids.map encI).length+1)*8<=140737488355328:=by rw[yae];omega
  have c1:=wib w l[i].vals hw hv;generalize hT:jcb w l[i].vals=T at c1 hs;have hz1:∀e∈ids.map encI,e.length=1:=λe he=>(jas e he).1;have e1:ids.map encI++[encI l[i].id]=(ids++[l[i].id]).map encI:=gx;by_cases h0:0<w.length
  ·rw[if_pos h0]at hs;repeat' first|refine X ?_|((first|apply yG|apply yH|apply yI);exact rfl;(first|exact yax jc hk hlt))|(apply Go.app1;exact rfl;exact rfl;exact rfl;exact rfl;exact rfl;exact hz1;exact hj;exact rfl;exact hbd;intro v' junk' hj')|refine yaC (c1) ?_|exact yaF|refine Y ?_ ?_<;>intro _
   ·rename_i h1 h2;rw[if_pos h2]at hs;refine .ret rfl ?_;rw[wak,hs];exact zeu (.bool _) (wnf (jl0 (zkp jas hj)))
   ·rename_i h1 h2 h3;rw[if_neg h2,if_pos h3]at hs;refine Go.keep [1,6,11,12,13] (hrec _ _ _ O ⟨i+1,_,ids++[l[i].id],v',junk',rfl,hlt,wb hk O,hj',⟨by simp;omega,hs⟩, ?_, ?_⟩)
    ·rw[<-e1];rfl
    ·rw[<-e1];rfl
   ·rename_i h1 h2 h3;rw[if_neg h2,if_neg h3]at hs;exact Go.keep [1,6,11,12,13] (hrec _ _ _ O ⟨i+1,_,ids,v,junk,rfl,hlt,wb hk O,hj,⟨O,hs⟩,rfl,rfl⟩)
  ·rw[if_neg h0]at hs;repeat' first|refine X ?_|((first|apply yG|apply yH|apply yI);exact rfl;(first|exact yax jc hk hlt))|(apply Go.app1;exact rfl;exact rfl;exact rfl;exact rfl;exact rfl;exact hz1;exact hj;exact rfl;exact hbd;intro v' junk' hj')|exact yaF|refine Y ?_ ?_<;>intro _
   rw[if_neg gb,if_pos rfl]at hs;refine Go.keep [1,6,11,12,13] (hrec _ _ _ O ⟨i+1,_,ids++[l[i].id],v',junk',rfl,hlt,wb hk O,hj',⟨by simp;omega,hs⟩, ?_, ?_⟩)
   ·rw[<-e1];rfl
   ·rw[<-e1];rfl
 ·repeat' first|refine X ?_|exact yaF|refine Y ?_ ?_<;>intro _
  refine .ret rfl ?_;rw[yac O,wal]at hs;rw[wak,hs];exact zeu (.bool _) (zcq jas hj)
theorem wif(d:Data)(w:List Tok)(hx:d.rows.length<=1048576)(hw:w.length<=34359738368)(hT:0<w.length->∀r∈d.rows,jt r.vals 16=true/\war w r.vals.length=true)(G:wa):Ok Tryz.prog 68 [.agg (jb d),.c (.fz (w.map zh))] G (NewV G (.tup [.c (.fz ((wak d.rows w).1.map encI)),.c (.bool (wak d.rows w).2)])):=by
 refine Ok.run mixed zdf gz λhS hA=>?_;clear hS hA;repeat' first|refine X ?_|exact yaF|refine Y ?_ ?_<;>intro _
 refine Go.keep [1,2,6,7] (Go.loops (I:=λm fr V=>∃(i:Nat) (k:Int) (ids:List Int) (v:Nat) (junk:List (List Ce)),m=d.rows.length-i/\i<=d.rows.length/\k=i/\Jk 1 junk/\(ids.length<=i/\wal w d.rows []=wal w (d.rows.drop i) ids)/\
  fr=[(1,.c (.fz (w.map zh))),(2,.c (.fp (jb d))),(6,.c (vec (G.next+0) v (ids.map encI) junk)),(7,.c (.int .i64 k))]/\V=E G [(v,ids.map encI++junk)]) ?_ _ _ _ ⟨0,_,[],0,[],rfl,yad _,rfl,Jk.nil,⟨yad _,rfl⟩,rfl,rfl⟩)
 rintro m fr V ⟨i,k,ids,v,junk,rfl,hi,hk,hj,⟨hil,hs⟩,rfl,rfl⟩ hrec;by_cases hlt:i<d.rows.length
 ·rw[yab hlt,wal,isM]at hs;have hbd:((ids.map encI).length+1)*8<=140737488355328:=by rw[yae];omega
  have hz1:∀e∈ids.map encI,e.length=1:=λe he=>(jas e he).1;have e1:ids.map encI++[encI d.rows[i].id]=(ids++[d.rows[i].id]).map encI:=gx;by_cases h0:0<w.length
  ·obtain⟨q1,q2⟩:=hT h0 _ (yaa hlt);have c1:=jer w d.rows[i].vals q1 q2;have hTT:jcb w d.rows[i].vals=wc1 w d.rows[i].vals:=by rw[jcb,wdj,q1,q2];rfl
   have hr:-1<=wc1 w d.rows[i].vals:=by
    rw[wc1];split
    ·rw[zak];split
     ·decide
     ·split
      ·split<;>decide
      ·decide
    ·decide
   rw[if_pos h0,hTT]at hs;generalize wc1 w d.rows[i].vals=T at c1 hs hr;repeat' first|refine X ?_|((first|apply yG|apply yH|apply yI);exact rfl;(first|exact yax jc hk hlt))|(apply Go.app1;exact rfl;exact rfl;exact rfl;exact rfl;exact rfl;exact hz1;exact hj;exact rfl;exact hbd;intro v' junk' hj')|refine yaC (c1) ?_|exact yaF|refine Y ?_ ?_<;>intro _
   ·rename_i h1 h2;rw[if_pos O]at hs;refine .ret rfl ?_;rw[wak,hs];exact zeu (.bool _) (wnf (jl0 (zkp jas hj)))
   ·rename_i h1 h2 h3;rw[if_neg O,if_pos h3]at hs;refine Go.keep [1,2,6,7] (hrec _ _ _ O ⟨i+1,_,ids++[d.rows[i].id],v',junk',rfl,hlt,wb hk O,hj',⟨by simp;omega,hs⟩, ?_, ?_⟩)
    ·rw[<-e1];rfl
    ·rw[<-e1];rfl
   ·rename_i h1 h2 h3;rw[if_neg O,if_neg h3]at hs;exact Go.keep [1,2,6,7] (hrec _ _ _ O ⟨i+1,_,ids,v,junk,rfl,hlt,wb hk O,hj,⟨O,hs⟩,rfl,rfl⟩)
  ·rw[if_neg h0]at hs;repeat' first|refine X ?_|((first|apply yG|apply yH|apply yI);exact rfl;(first|exact yax jc hk hlt))|(apply Go.app1;exact rfl;exact rfl;exact rfl;exact rfl;exact rfl;exact hz1;exact hj;exact rfl;exact hbd;intro v' junk' hj')|exact yaF|refine Y ?_ ?_<;>intro _
   rw[if_neg gb,if_pos rfl]at hs;refine Go.keep [1,2,6,7] (hrec _ _ _ O ⟨i+1,_,ids++[d.rows[i].id],v',junk',rfl,hlt,wb hk O,hj',⟨by simp;omega,hs⟩, ?_, ?_⟩)
   ·rw[<-e1];rfl
   ·rw[<-e1];rfl
 ·repeat' first|refine X ?_|exact yaF|refine Y ?_ ?_<;>intro _
  refine .ret rfl ?_;rw[yac O,wal]at hs;rw[wak,hs];exact zeu (.bool _) (zcq jas hj)
def zng(db:List Data)(n:Int):List RowD:=match db[n.toNat]? with|some d=>d.rows|none=>[]
theorem wl0{n m:Int}(h:isIn n 0 (m-1)=true):0<=n/\n<m:=by
 simp only[isIn,Bool.and_eq_true,decide_eq_true_eq]at h;omega
theorem wj9{w:List Tok}{n:Int}(h:wbt w n=true)(h0:0<w.length):war w n=true:=by
 rw[wbt,beq_eq_false_iff_ne.2 O,ybu]at h;exact h
def zka(vals:List Val)(c:Int):Val:=vals[c.toNat]?.getD z6
def keyF(cols:List Int)(vals:List Val):List Val:=cols.map (zka vals)
def jaf(cols:List Int)(vals:List Val):Bool:=cols.all λc=> !((zka vals c).k==0)
def InR(cols:List Int)(n:Nat):Prop:=∀c∈cols,0<=c/\c<n
variable {vals:List Val}
theorem jkp(h:c.toNat<vals.length):zka vals c=vals[c.toNat]:=by rw[zka,yag h];rfl
theorem wa6(cols:List Int)(vals:List Val):(keyF cols vals).length=cols.length:=yae _
variable {cols:List Int}
theorem wjf(h:i<cols.length):keyF (cols.take (i+1)) vals=keyF (cols.take i) vals++[zka vals cols[i]]:=by
 rw[yaj h,keyF,yaqq];rfl
theorem wgn(h:i<cols.length):jaf (cols.take (i+1)) vals=(jaf (cols.take i) vals&& !((zka vals cols[i]).k==0)):=by
 rw[yaj h,jaf,List.all_append,jaf,ybv,List.all_nil,Bool.and_true]
theorem zgo(cols:List Int)(vals:List Val)(hx:cols.length<=34359738368)(hi:InR cols vals.length)(G:wa):Ok Tryz.prog 297 [.c (.fz (cols.map encI)),.c (.fz (vals.map encV))] G (NewV G (.tup [.c (.fz ((keyF cols vals).map encV)),.c (.bool (jaf cols vals))])):=by
 refine Ok.run mixed zf9 gz λhS hA=>?_;clear hS hA;repeat' first|refine X ?_|exact yaF|refine Y ?_ ?_<;>intro _
 refine Go.keep [1,6,7,11,12,13] (Go.loops (I:=λm fr V=>∃(i:Nat) (k:Int) (v:Nat) (junk:List (List Ce)) (ks:List Val) (b:Bool),m=cols.length-i/\i<=cols.length/\k=i/\Jk 3 junk/\(ks=keyF (cols.take i) vals/\b=jaf (cols.take i) vals)/\
  fr=[(1,.c (.fz (vals.map encV))),(6,.c (vec (G.next+0) v (ks.map encV) junk)),(7,.c (.bool b)),(11,.c (.fz (cols.map encI))),(12,.c (.int .i64 (cols.length:Int))),(13,.c (.int .i64 k))]/\V=E G [(v,ks.map encV++junk)]) ?_ _ _ _ ⟨0,_,0,[],[],true,rfl,yad _,rfl,Jk.nil,⟨rfl,rfl⟩,rfl,rfl⟩)
 rintro m fr V ⟨i,k,v,junk,ks,b,rfl,hile,hk,hj,⟨hks,hb⟩,rfl,rfl⟩ hrec;by_cases hlt:i<cols.length
 ·obtain⟨q1,q2⟩:=hi _ (yaa hlt);have hc:cols[i]=(cols[i].toNat:Int):=O;have hcl:cols[i].toNat<vals.length:=O;have hv:=jkp hcl;have hkl:(ks.map encV).length=i:=by rw[yae,hks,wa6,yasq];omega
  have hbd:((ks.map encV).length+1)*32<=140737488355328:=O;have e1:ks.map encV++[encV vals[cols[i].toNat]]=(ks++[vals[cols[i].toNat]]).map encV:=gx;have hk2:ks++[vals[cols[i].toNat]]=keyF (cols.take (i+1)) vals:=by rw[wjf hlt,<-hks,hv]
  have hw2:=wgn (vals:=vals) hlt;rw[<-hb,hv]at hw2
  cases b
  ·repeat' first|refine X ?_|((first|apply yG|apply yH|apply yI);exact rfl;(first|exact yax encI hk hlt|exact yax encV hc hcl))|(apply Go.app1;exact rfl;exact rfl;exact rfl;exact rfl;exact rfl;exact lens;exact hj;exact rfl;exact hbd;intro v' junk' hj')|exact yaF|refine Y ?_ ?_<;>intro _
   refine Go.keep [1,6,7,11,12,13] (hrec _ _ _ O ⟨i+1,_,v',junk',ks++[vals[cols[i].toNat]],_,rfl,hlt,wb hk O,hj',⟨hk2,hw2.symm⟩, ?_, ?_⟩)
   ·rw[<-e1];rfl
   ·rw[<-e1];rfl
  ·repeat' first|refine X ?_|((first|apply yG|apply yH|apply yI);exact rfl;(first|exact yax encI hk hlt|exact yax encV hc hcl))|(apply Go.app1;exact rfl;exact rfl;exact rfl;exact rfl;exact rfl;exact lens;exact hj;exact rfl;exact hbd;intro v' junk' hj')|exact yaF|refine Y ?_ ?_<;>intro _
   refine Go.keep [1,6,7,11,12,13] (hrec _ _ _ O ⟨i+1,_,v',junk',ks++[vals[cols[i].toNat]],vals[cols[i].toNat].k !=0,rfl,hlt,wb hk O,hj',⟨hk2,hw2.symm⟩, ?_, ?_⟩)
   ·rw[<-e1];rfl
   ·rw[<-e1];rfl
 ·repeat' first|refine X ?_|exact yaF|refine Y ?_ ?_<;>intro _
  refine .ret rfl ?_;rw[yan O]at hks hb;rw[<-hks,<-hb];exact zeu (.bool _) (zcq jak hj)
theorem wfm(cols:List Int)(vals:List Val)(hx:cols.length<=34359738368)(hi:InR cols vals.length):Pure Tryz.prog 297 [.c (.fz (cols.map encI)),.c (.fz (vals.map encV))] (.tup [.c (.fz ((keyF cols vals).map encV)),.c (.bool (jaf cols vals))]):=NewV.pure (zgo cols vals hx hi)
theorem zl1(cols:List Int)(vals:List Val)(hx:cols.length<=34359738368)(hi:InR cols vals.length)(G:wa):Ok Tryz.prog 326 [.c (.fz (cols.map encI)),.c (.fz (vals.map encV))] G (NewV G (.tup [.c (.fz ((keyF cols vals).map encV)),.c (.bool (jaf cols vals))])):=by
 refine Ok.run mixed zga gz λhS hA=>?_;clear hS hA;repeat' first|refine X ?_|exact yaF|refine Y ?_ ?_<;>intro _
 refine Go.keep [0,1,6,7,8] (Go.loops (I:=λm fr V=>∃(i:Nat) (k:Int) (v:Nat) (junk:List (List Ce)) (ks:List Val) (b:Bool),m=cols.length-i/\i<=cols.length/\k=i/\Jk 3 junk/\(ks=keyF (cols.take i) vals/\b=jaf (cols.take i) vals)/\
  fr=[(0,.c (.fz (cols.map encI))),(1,.c (.fz (vals.map encV))),(6,.c (vec (G.next+0) v (ks.map encV) junk)),(7,.c (.bool b)),(8,.c (.int .i64 k))]/\V=E G [(v,ks.map encV++junk)]) ?_ _ _ _ ⟨0,_,0,[],[],true,rfl,yad _,rfl,Jk.nil,⟨rfl,rfl⟩,rfl,rfl⟩)
 rintro m fr V ⟨i,k,v,junk,ks,b,rfl,hile,hk,hj,⟨hks,hb⟩,rfl,rfl⟩ hrec;by_cases hlt:i<cols.length
 ·obtain⟨q1,q2⟩:=hi _ (yaa hlt);have hc:cols[i]=(cols[i].toNat:Int):=O;have hcl:cols[i].toNat<vals.length:=O;have hv:=jkp hcl;have hkl:(ks.map encV).length=i:=by rw[yae,hks,wa6,yasq];omega
  have hbd:((ks.map encV).length+1)*32<=140737488355328:=O;have e1:ks.map encV++[encV vals[cols[i].toNat]]=(ks++[vals[cols[i].toNat]]).map encV:=gx;have hk2:ks++[vals[cols[i].toNat]]=keyF (cols.take (i+1)) vals:=by rw[wjf hlt,<-hks,hv]
  have hw2:=wgn (vals:=vals) hlt;rw[<-hb,hv]at hw2
  cases b
  ·repeat' first|refine X ?_|((first|apply yG|apply yH|apply yI);exact rfl;(first|exact yax encI hk hlt|exact yax encV hc hcl))|(apply Go.app1;exact rfl;exact rfl;exact rfl;exact rfl;exact rfl;exact lens;exact hj;exact rfl;exact hbd;intro v' junk' hj')|exact yaF|refine Y ?_ ?_<;>intro _
   refine Go.keep [0,1,6,7,8] (hrec _ _ _ O ⟨i+1,_,v',junk',ks++[vals[cols[i].toNat]],_,rfl,hlt,wb hk O,hj',⟨hk2,hw2.symm⟩, ?_, ?_⟩)
   ·rw[<-e1];rfl
   ·rw[<-e1];rfl
  ·repeat' first|refine X ?_|((first|apply yG|apply yH|apply yI);exact rfl;(first|exact yax encI hk hlt|exact yax encV hc hcl))|(apply Go.app1;exact rfl;exact rfl;exact rfl;exact rfl;exact rfl;exact lens;exact hj;exact rfl;exact hbd;intro v' junk' hj')|exact yaF|refine Y ?_ ?_<;>intro _
   refine Go.keep [0,1,6,7,8] (hrec _ _ _ O ⟨i+1,_,v',junk',ks++[vals[cols[i].toNat]],vals[cols[i].toNat].k !=0,rfl,hlt,wb hk O,hj',⟨hk2,hw2.symm⟩, ?_, ?_⟩)
   ·rw[<-e1];rfl
   ·rw[<-e1];rfl
 ·repeat' first|refine X ?_|exact yaF|refine Y ?_ ?_<;>intro _
  refine .ret rfl ?_;rw[yan O]at hks hb;rw[<-hks,<-hb];exact zeu (.bool _) (zcq jak hj)
theorem wbp(cols:List Int)(vals:List Val)(hx:cols.length<=34359738368)(hi:InR cols vals.length):Pure Tryz.prog 326 [.c (.fz (cols.map encI)),.c (.fz (vals.map encV))] (.tup [.c (.fz ((keyF cols vals).map encV)),.c (.bool (jaf cols vals))]):=NewV.pure (zl1 cols vals hx hi)
def hasB(cols:List Int)(key vals:List Val):Bool:=jaf cols vals&&(keyF cols vals==key)
def zad(rows:List RowD)(cols:List Int)(key:List Val):List Int:=(rows.filter λr=>hasB cols key r.vals).map (·.id)
variable {rows:List RowD}{key:List Val}
theorem jdu(h:i<rows.length):zad (rows.take (i+1)) cols key=zad (rows.take i) cols key++if hasB cols key rows[i].vals then[rows[i].id]else[]:=by
 rw[zad,yaj h,List.filter_append,yaqq,zad]
 congr 1
 rw[List.filter_cons,List.filter_nil];split<;>rfl
theorem wda:(zad rows cols key).length<=rows.length:=by rw[zad,yae];exact ybt _ _
theorem wkp(cols:List Int)(vals key:List Val)(hx:cols.length<=34359738368)(hi:InR cols vals.length):Pure Tryz.prog 298 [.c (.fz (cols.map encI)),.c (.fz (vals.map encV)),.c (.fz (key.map encV))] (.c (.bool (hasB cols key vals))):=by
 refine yaq [] jkw λG=>?_;have c1:=wfm cols vals hx hi;have c2:=ze0 (keyF cols vals) key (by rw[wa6];exact hx);rw[hasB];generalize keyF cols vals=ks at c1 c2⊢;generalize (ks==key)=e at c2⊢
 cases hw:jaf cols vals
 ·rw[hw]at c1;repeat' first|refine X ?_|refine yaC (c1) ?_|exact yaF|refine Y ?_ ?_<;>intro _
  exact .ret rfl (.bool rfl)
 ·rw[hw]at c1;repeat' first|refine X ?_|refine yaC (c1) ?_|refine yaC (c2) ?_|exact yaF|refine Y ?_ ?_<;>intro _
  exact .ret rfl (.bool rfl)
theorem jm3(rows:List RowD)(cols:List Int)(key:List Val)(hr:rows.length<=1048576)(hx:cols.length<=34359738368)(hi:∀r∈rows,InR cols r.vals.length):Pure Tryz.prog 352 [.c (.fz (rows.map jc)),.c (.fz (cols.map encI)),.c (.fz (key.map encV))] (.c (.fz ((zad rows cols key).map encI))):=by
 refine NewV.pure λG=>Ok.run mixed wcy gz λhS hA=>?_;clear hS hA;repeat' first|refine X ?_|exact yaF|refine Y ?_ ?_<;>intro _
 refine Go.keep [1,2,7,11,12,13] (Go.loops (I:=λm fr V=>∃(i:Nat) (k:Int) (v:Nat) (junk:List (List Ce)) (ids:List Int),m=rows.length-i/\i<=rows.length/\k=i/\Jk 1 junk/\ids=zad (rows.take i) cols key/\
  fr=[(1,.c (.fz (cols.map encI))),(2,.c (.fz (key.map encV))),(7,.c (vec (G.next+0) v (ids.map encI) junk)),(11,.c (.fz (rows.map jc))),(12,.c (.int .i64 (rows.length:Int))),(13,.c (.int .i64 k))]/\V=E G [(v,ids.map encI++junk)]) ?_ _ _ _ ⟨0,_,0,[],[],rfl,yad _,rfl,Jk.nil,rfl,rfl,rfl⟩)
 rintro m fr V ⟨i,k,v,junk,ids,rfl,hile,hk,hj,hids,rfl,rfl⟩ hrec;by_cases hlt:i<rows.length
 ·have c1:=wkp cols rows[i].vals key hx (hi _ (yaa hlt));have hn:=jdu (cols:=cols) (key:=key) hlt;rw[<-hids]at hn;have hl:(ids.map encI).length<=1048576:=by rw[yae,hids];have:=wda (rows:=rows.take i) (cols:=cols) (key:=key);rw[yasq]at this;omega
  have hbd:((ids.map encI).length+1)*8<=140737488355328:=O;have hz1:∀e∈ids.map encI,e.length=1:=λe he=>(jas e he).1;have e1:ids.map encI++[encI rows[i].id]=(ids++[rows[i].id]).map encI:=gx;clear hi
  cases hb:hasB cols key rows[i].vals
  ·rw[hb]at c1 hn;rw[if_neg yah,ybg]at hn;repeat' first|refine X ?_|((first|apply yG|apply yH|apply yI);exact rfl;(first|exact yax jc hk hlt))|refine yaC (c1) ?_|exact yaF|refine Y ?_ ?_<;>intro _
   exact Go.keep [1,2,7,11,12,13] (hrec _ _ _ O ⟨i+1,_,v,junk,ids,rfl,hlt,wb hk O,hj,hn.symm,rfl,rfl⟩)
  ·rw[hb]at c1 hn;rw[if_pos rfl]at hn;repeat' first|refine X ?_|((first|apply yG|apply yH|apply yI);exact rfl;(first|exact yax jc hk hlt))|(apply Go.app1;exact rfl;exact rfl;exact rfl;exact rfl;exact rfl;exact hz1;exact hj;exact rfl;exact hbd;intro v' junk' hj')|refine yaC (c1) ?_|exact yaF|refine Y ?_ ?_<;>intro _
   refine Go.keep [1,2,7,11,12,13] (hrec _ _ _ O ⟨i+1,_,v',junk',ids++[rows[i].id],rfl,hlt,wb hk O,hj',hn.symm, ?_, ?_⟩)
   ·rw[<-e1];rfl
   ·rw[<-e1];rfl
 ·repeat' first|refine X ?_|exact yaF|refine Y ?_ ?_<;>intro _
  refine .ret rfl ?_;rw[yan O]at hids;rw[<-hids];exact zcq jas hj
theorem jgo(d:Data)(cols:List Int)(key:List Val)(hr:d.rows.length<=1048576)(hx:cols.length<=34359738368)(hi:∀r∈d.rows,InR cols r.vals.length):Pure Tryz.prog 380 [.agg (jb d),.c (.fz (cols.map encI)),.c (.fz (key.map encV))] (.c (.fz ((zad d.rows cols key).map encI))):=by
 refine NewV.pure λG=>Ok.run mixed zfj gz λhS hA=>?_;clear hS hA;repeat' first|refine X ?_|exact yaF|refine Y ?_ ?_<;>intro _
 refine Go.keep [1,2,3,7,8] (Go.loops (I:=λm fr V=>∃(i:Nat) (k:Int) (v:Nat) (junk:List (List Ce)) (ids:List Int),m=d.rows.length-i/\i<=d.rows.length/\k=i/\Jk 1 junk/\ids=zad (d.rows.take i) cols key/\
  fr=[(1,.c (.fz (cols.map encI))),(2,.c (.fz (key.map encV))),(3,.c (.fp (jb d))),(7,.c (vec (G.next+0) v (ids.map encI) junk)),(8,.c (.int .i64 k))]/\V=E G [(v,ids.map encI++junk)]) ?_ _ _ _ ⟨0,_,0,[],[],rfl,yad _,rfl,Jk.nil,rfl,rfl,rfl⟩)
 rintro m fr V ⟨i,k,v,junk,ids,rfl,hile,hk,hj,hids,rfl,rfl⟩ hrec;by_cases hlt:i<d.rows.length
 ·have c1:=wbp cols d.rows[i].vals hx (hi _ (yaa hlt));have c2:=zbp (keyF cols d.rows[i].vals) key (by rw[wa6];exact hx);have hn:=jdu (cols:=cols) (key:=key) hlt;rw[<-hids,hasB]at hn;have hl:(ids.map encI).length<=1048576:=by rw[yae,hids];have:=wda (rows:=d.rows.take i) (cols:=cols) (key:=key);rw[yasq]at this;omega
  have hbd:((ids.map encI).length+1)*8<=140737488355328:=O;have hz1:∀e∈ids.map encI,e.length=1:=λe he=>(jas e he).1;have e1:ids.map encI++[encI d.rows[i].id]=(ids++[d.rows[i].id]).map encI:=gx;clear hi;generalize keyF cols d.rows[i].vals=ks at c1 c2 hn;generalize (ks==key)=q at c2 hn
  cases hb:jaf cols d.rows[i].vals
  ·rw[hb]at c1 hn;rw[ybi,if_neg yah,ybg]at hn;repeat' first|refine X ?_|((first|apply yG|apply yH|apply yI);exact rfl;(first|exact yax jc hk hlt))|refine yaC (c1) ?_|exact yaF|refine Y ?_ ?_<;>intro _
   exact Go.keep [1,2,3,7,8] (hrec _ _ _ O ⟨i+1,_,v,junk,ids,rfl,hlt,wb hk O,hj,hn.symm,rfl,rfl⟩)
  ·cases q
   ·rw[hb]at c1 hn;rw[ybk,if_neg yah,ybg]at hn;repeat' first|refine X ?_|((first|apply yG|apply yH|apply yI);exact rfl;(first|exact yax jc hk hlt))|refine yaC (c1) ?_|refine yaC (c2) ?_|exact yaF|refine Y ?_ ?_<;>intro _
    exact Go.keep [1,2,3,7,8] (hrec _ _ _ O ⟨i+1,_,v,junk,ids,rfl,hlt,wb hk O,hj,hn.symm,rfl,rfl⟩)
   ·rw[hb]at c1 hn;rw[Bool.and_true,if_pos rfl]at hn;repeat' first|refine X ?_|((first|apply yG|apply yH|apply yI);exact rfl;(first|exact yax jc hk hlt))|(apply Go.app1;exact rfl;exact rfl;exact rfl;exact rfl;exact rfl;exact hz1;exact hj;exact rfl;exact hbd;intro v' junk' hj')|refine yaC (c1) ?_|refine yaC (c2) ?_|exact yaF|refine Y ?_ ?_<;>intro _
    refine Go.keep [1,2,3,7,8] (hrec _ _ _ O ⟨i+1,_,v',junk',ids++[d.rows[i].id],rfl,hlt,wb hk O,hj',hn.symm, ?_, ?_⟩)
    ·rw[<-e1];rfl
    ·rw[<-e1];rfl
 ·repeat' first|refine X ?_|exact yaF|refine Y ?_ ?_<;>intro _
  refine .ret rfl ?_;rw[yan O]at hids;rw[<-hids];exact zcq jas hj
structure wk6(t:zd):Prop where
 cols0:1<=t.cols.length
 cols8:t.cols.length<=8
 key:InR t.key t.cols.length
 uniq:∀u∈t.uniques,InR u.cols t.cols.length
 chk:∀c∈t.checks,war c.expr t.cols.length=true
 fk:∀f∈t.fks,InR f.cols t.cols.length
 uniq3:t.uniques.length<=3
 chk3:t.checks.length<=3
 fk3:t.fks.length<=3
theorem zjg(h:zao t=true):wk6 t:=by
 simp only[zao,Bool.and_eq_true,decide_eq_true_eq,Bool.not_eq_true',List.any_eq_false,Bool.not_eq_false',Bool.not_eq_true]at h;obtain⟨h1,h2,h3,h4,h5,h6,h7,h8,h9,h10⟩:=h;have hc:=wez h2;exact⟨hc.1,hc.2,wci h3,λu hu=>wci (by simpa using h8 u hu),λc hc=>by simpa using h9 c hc,λf hf=>by
  have:zc1 f t.cols.length=true:=by simpa using h10 f hf
  simp only[zc1,Bool.and_eq_true]at this;exact wci this.1,O,O,O⟩
theorem wgo(h:js s=true):∀t∈s,wk6 t:=λt ht=>by
 simp only[js,Bool.and_eq_true]at h;exact zjg (wbc h.2.1 t ht)
def za7(t:zd):Nat->List Val->Bool
 |_,[]=>false
 |i,v::l=>(jy t i&&v.k==0)||za7 t (i+1) l
theorem zk7(t:zd)(vals:List Val)(hl:vals.length=t.cols.length)(hc:t.cols.length<=8):Pure Tryz.prog 220 [.agg (ja t),.c (.fz (vals.map encV))] (.c (.bool (za7 t 0 vals))):=by
 refine yaq [2] zg3 λG=>?_;repeat' first|refine X ?_|exact yaF|refine Y ?_ ?_<;>intro _
 refine Go.keep [2,7,8,9] (Go.loops (I:=λm fr V=>∃(i:Nat) (k:Int),m=vals.length-i/\i<=vals.length/\k=i/\za7 t 0 vals=za7 t i (vals.drop i)/\
  fr=[(2,.c (.fp (ja t))),(7,.c (.fz (vals.map encV))),(8,.c (.int .i64 (vals.length:Int))),(9,.c (.int .i64 k))]/\V=E G []) ?_ _ _ _ ⟨0,_,rfl,yad _,rfl,rfl,rfl,rfl⟩)
 rintro m fr V ⟨i,k,rfl,hi,hk,hs,rfl,rfl⟩ hrec;by_cases hlt:i<vals.length
 ·have hlc:i<t.cols.length:=O;have hnn:jy t i=t.cols[i].notNull:=by rw[jy,ybh,yag hlc]
  rw[yab hlt,za7,hnn]at hs
  cases hb:t.cols[i].notNull
  ·rw[hb,ybi,ybu]at hs;repeat' first|refine X ?_|((first|apply yG|apply yH|apply yI);exact rfl;(first|exact yax encV hk hlt|exact yax ji hk hlc))|exact yaF|refine Y ?_ ?_<;>intro _
   all_goals first
    |exact Go.keep [2,7,8,9] (hrec _ _ _ O ⟨i+1,_,rfl,hlt,wb hk O,hs,rfl,rfl⟩)
    |(exfalso;simp_all;done)
  ·by_cases h0:vals[i].k=0
   ·rw[hb,h0]at hs;repeat' first|refine X ?_|((first|apply yG|apply yH|apply yI);exact rfl;(first|exact yax encV hk hlt|exact yax ji hk hlc))|exact yaF|refine Y ?_ ?_<;>intro _
    all_goals first
     |exact .ret rfl (.bool hs.symm)
     |(exfalso;simp_all;done)
   ·rw[hb,beq_eq_false_iff_ne.2 h0,ybk,ybu]at hs;repeat' first|refine X ?_|((first|apply yG|apply yH|apply yI);exact rfl;(first|exact yax encV hk hlt|exact yax ji hk hlc))|exact yaF|refine Y ?_ ?_<;>intro _
    all_goals first
     |exact Go.keep [2,7,8,9] (hrec _ _ _ O ⟨i+1,_,rfl,hlt,wb hk O,hs,rfl,rfl⟩)
     |(exfalso;simp_all;done)
 ·repeat' first|refine X ?_|exact yaF|refine Y ?_ ?_<;>intro _
  rw[yac O,za7]at hs;exact .ret rfl (.bool hs.symm)
theorem jk7(t:zd)(vals:List Val)(hl:vals.length=t.cols.length)(hc:t.cols.length<=8):Pure Tryz.prog 347 [.agg (ja t),.c (.fz (vals.map encV))] (.c (.bool (!za7 t 0 vals))):=by
 refine yaq [2] wg7 λG=>?_;repeat' first|refine X ?_|exact yaF|refine Y ?_ ?_<;>intro _
 refine Go.keep [1,2,5] (Go.loops (I:=λm fr V=>∃(i:Nat) (k:Int),m=vals.length-i/\i<=vals.length/\k=i/\za7 t 0 vals=za7 t i (vals.drop i)/\
  fr=[(1,.c (.fz (vals.map encV))),(2,.c (.fp (ja t))),(5,.c (.int .i64 k))]/\V=E G []) ?_ _ _ _ ⟨0,_,rfl,yad _,rfl,rfl,rfl,rfl⟩)
 rintro m fr V ⟨i,k,rfl,hi,hk,hs,rfl,rfl⟩ hrec;by_cases hlt:i<vals.length
 ·have hlc:i<t.cols.length:=O;have hnn:jy t i=t.cols[i].notNull:=by rw[jy,ybh,yag hlc]
  rw[yab hlt,za7,hnn]at hs
  cases hb:t.cols[i].notNull
  ·rw[hb,ybi,ybu]at hs;repeat' first|refine X ?_|((first|apply yG|apply yH|apply yI);exact rfl;(first|exact yax encV hk hlt|exact yax ji hk hlc))|exact yaF|refine Y ?_ ?_<;>intro _
   all_goals first
    |exact Go.keep [1,2,5] (hrec _ _ _ O ⟨i+1,_,rfl,hlt,wb hk O,hs,rfl,rfl⟩)
    |(exfalso;simp_all;done)
  ·by_cases h0:vals[i].k=0
   ·rw[hb,h0]at hs;repeat' first|refine X ?_|((first|apply yG|apply yH|apply yI);exact rfl;(first|exact yax encV hk hlt|exact yax ji hk hlc))|exact yaF|refine Y ?_ ?_<;>intro _
    all_goals first
     |exact .ret rfl (.bool (by rw[hs];rfl))
     |(exfalso;simp_all;done)
   ·rw[hb,beq_eq_false_iff_ne.2 h0,ybk,ybu]at hs;repeat' first|refine X ?_|((first|apply yG|apply yH|apply yI);exact rfl;(first|exact yax encV hk hlt|exact yax ji hk hlc))|exact yaF|refine Y ?_ ?_<;>intro _
    all_goals first
     |exact Go.keep [1,2,5] (hrec _ _ _ O ⟨i+1,_,rfl,hlt,wb hk O,hs,rfl,rfl⟩)
     |(exfalso;simp_all;done)
 ·repeat' first|refine X ?_|exact yaF|refine Y ?_ ?_<;>intro _
  rw[yac O,za7]at hs;exact .ret rfl (.bool (by rw[hs];rfl))
def zbg(vals:List Val)(x:Chk):Bool:=decide (jcb x.expr vals<1)
theorem zig(x:Chk)(vals:List Val)(hx:x.expr.length<=34359738368)(hv:vals.length<=34359738368):Pure Tryz.prog 294 [.agg (zx x),.c (.fp [.fz (vals.map encV)])] (.c (.bool (zbg vals x))):=by
 refine yaq [2] zd5 λG=>?_;repeat' first|refine X ?_|refine yaC (wib x.expr vals hx hv) ?_|exact yaF|refine Y ?_ ?_<;>intro _
 exact .ret rfl (.bool rfl)
theorem jjg(t:zd)(vals:List Val)(hn:t.checks.length<=34359738368)(hx:∀c∈t.checks,c.expr.length<=34359738368)(hv:vals.length<=34359738368):Pure Tryz.prog 221 [.agg (ja t),.c (.fz (vals.map encV))] (.c (.bool (!(t.checks.any (zbg vals))))):=by
 refine yaq [2,3] wfd λG=>?_;repeat' first|refine X ?_|((first|apply Go.pcallB|apply Go.spcallB|apply Qg.pcallB);(iterate 3 exact rfl);exact wj mixed waj jaq zx (λu=>.agg (zx u)) (λ_=>rfl) (λ_=>rfl) t.checks (zbg vals) _ [] [.fp [.fz (vals.map encV)]] hn (λj hj _=>zig _ vals (hx _ (yaa hj)) hv);intro _ _)|exact yaF|refine Y ?_ ?_<;>intro _
 rename_i b hb;exact .ret rfl (.bool (by rw[hb]))
theorem jka(t:zd)(vals:List Val)(hn:t.checks.length<=3)(hx:∀c∈t.checks,war c.expr vals.length=true)(hv:jt vals 16=true):Pure Tryz.prog 348 [.agg (ja t),.c (.fz (vals.map encV))] (.c (.bool (!(t.checks.any (zbg vals))))):=by
 refine yaq [2] jga λG=>?_;repeat' first|refine X ?_|exact yaF|refine Y ?_ ?_<;>intro _
 refine Go.keep [1,2,5] (Go.loops (I:=λm fr V=>∃(i:Nat) (k:Int),m=t.checks.length-i/\i<=t.checks.length/\k=i/\t.checks.any (zbg vals)=(t.checks.drop i).any (zbg vals)/\
  fr=[(1,.c (.fz (vals.map encV))),(2,.c (.fp (ja t))),(5,.c (.int .i64 k))]/\V=E G []) ?_ _ _ _ ⟨0,_,rfl,yad _,rfl,rfl,rfl,rfl⟩)
 rintro m fr V ⟨i,k,rfl,hi,hk,hs,rfl,rfl⟩ hrec;by_cases hlt:i<t.checks.length
 ·have hex:=hx _ (yaa hlt);have c1:=jer t.checks[i].expr vals hv hex;have hTT:jcb t.checks[i].expr vals=wc1 t.checks[i].expr vals:=by rw[jcb,wdj,hv,hex];rfl
  rw[yab hlt,List.any_cons,zbg,hTT]at hs;generalize wc1 t.checks[i].expr vals=T at c1 hs;by_cases h1:T<1
  ·rw[decide_eq_true h1,Bool.true_or]at hs;repeat' first|refine X ?_|((first|apply yG|apply yH|apply yI);exact rfl;(first|exact yax zx hk hlt))|refine yaC (c1) ?_|exact yaF|refine Y ?_ ?_<;>intro _
   all_goals first
    |exact .ret rfl (.bool (by rw[hs];rfl))
    |(exfalso;omega)
  ·rw[decide_eq_false h1,ybu]at hs;repeat' first|refine X ?_|((first|apply yG|apply yH|apply yI);exact rfl;(first|exact yax zx hk hlt))|refine yaC (c1) ?_|exact yaF|refine Y ?_ ?_<;>intro _
   all_goals first
    |exact Go.keep [1,2,5] (hrec _ _ _ O ⟨i+1,_,rfl,hlt,wb hk O,hs,rfl,rfl⟩)
    |(exfalso;omega)
 ·repeat' first|refine X ?_|exact yaF|refine Y ?_ ?_<;>intro _
  rw[yac O,List.any_nil]at hs;exact .ret rfl (.bool (by rw[hs];rfl))
def jdh(cols:List Int):List Ce:=[.fz (cols.map encI)]
theorem jl1(n:Nat)(cols:List Int):∀x∈jdh cols,Old n x:=λx hx=>by
 rw[jdh,List.mem_singleton]at hx;subst hx;refine .fz _ λi j hi hj=>?_;exact((jas _ (yaa hi)).2 _ (yaa hj)).old n
theorem jbu{k N:Nat}(hl:l[k]?=some (v,ys++junk))(ho:∀e∈ys,∀x∈e,Old N x)(hN:N<=G.next+k):FrzV (E G l) N (.c (vec (G.next+k) v ys junk)) (.c (.fz ys)):=by
 refine .c (.sl _ _ _ _ _ (ys++junk) ys hN (by rw[E_at];exact hl) gx rfl (λi hi=>?_) (λi j hi hj=>?_))
 ·simp only[Nat.zero_add];rw[yapq hi]
 ·have e:(ys++junk)[0+i]'gq=ys[i]:=by
   simp only[Nat.zero_add];rw[yapq hi]
  simp only[e];exact .same _ (ho _ (yaa _) _ (yaa hj))
def zgp(vals:List Val)(r:RowD)(cols:List Int):Bool:=jaf cols vals&&hasB cols (keyF cols vals) r.vals
def zt(t:zd):List (List Int):=t.key::t.uniques.map (·.cols)
def j8(rows:List RowD)(keys:List (List Int))(id:Int)(vals:List Val):List Int:=(rows.filter λr=> !(r.id==id)&&keys.any (zgp vals r)).map (·.id)
variable {keys:List (List Int)}{id:Int}
theorem ze2(h:i<rows.length):j8 (rows.take (i+1)) keys id vals=j8 (rows.take i) keys id vals++if !(rows[i].id==id)&&keys.any (zgp vals rows[i])then[rows[i].id]else[]:=by
 rw[j8,yaj h,List.filter_append,yaqq,j8]
 congr 1
 rw[List.filter_cons,List.filter_nil];split<;>rfl
theorem jcl:(j8 rows keys id vals).length<=rows.length:=by rw[j8,yae];exact ybt _ _
theorem wk7(cols:List Int)(vals:List Val)(r:RowD)(hx:cols.length<=34359738368)(h1:InR cols vals.length)(h2:InR cols r.vals.length):Pure Tryz.prog 296 [.c (.fz (cols.map encI)),.c (.fp [.fz (vals.map encV)]),.c (.fp (jc r))] (.c (.bool (zgp vals r cols))):=by
 refine yaq [] wf8 λG=>?_;have c1:=wfm cols vals hx h1;have c2:=wkp cols r.vals (keyF cols vals) hx h2;rw[zgp];generalize keyF cols vals=ks at c1 c2⊢;generalize hasB cols ks r.vals=b at c2⊢
 cases hw:jaf cols vals
 ·rw[hw]at c1;repeat' first|refine X ?_|refine yaC (c1) ?_|exact yaF|refine Y ?_ ?_<;>intro _
  exact .ret rfl (.bool rfl)
 ·rw[hw]at c1;repeat' first|refine X ?_|refine yaC (c1) ?_|refine yaC (c2) ?_|exact yaF|refine Y ?_ ?_<;>intro _
  exact .ret rfl (.bool rfl)
def wdk(rows:List RowD)(r:RowD)(cols:List Int):Bool:=jaf cols r.vals&&(zad rows cols (keyF cols r.vals)).any λid=> !(id==r.id)
theorem zhk(d:Data)(cols:List Int)(r:RowD)(hr:d.rows.length<=1048576)(hx:cols.length<=34359738368)(hv:InR cols r.vals.length)(hi:∀q∈d.rows,InR cols q.vals.length):Pure Tryz.prog 373 [.agg (jb d),.c (.fz (cols.map encI)),.agg (jc r)] (.c (.bool (wdk d.rows r cols))):=by
 refine yaq [3,5] zg8 λG=>?_;have c1:=wbp cols r.vals hx hv;have c2:=jgo d cols (keyF cols r.vals) hr hx hi;have hl:=wda (rows:=d.rows) (cols:=cols) (key:=keyF cols r.vals);rw[wdk];generalize zad d.rows cols (keyF cols r.vals)=ids at c2 hl⊢;generalize keyF cols r.vals=ks at c1 c2
 cases hw:jaf cols r.vals
 ·rw[hw]at c1;repeat' first|refine X ?_|refine yaC (c1) ?_|exact yaF|refine Y ?_ ?_<;>intro _
  exact .ret rfl (.bool rfl)
 rw[hw]at c1;rw[yaz];repeat' first|refine X ?_|refine yaC (c1) ?_|refine yaC (c2) ?_|exact yaF|refine Y ?_ ?_<;>intro _
 refine Go.keep [5,9,10] (Go.loops (I:=λm fr V=>∃(i:Nat) (k:Int),m=ids.length-i/\i<=ids.length/\k=i/\(ids.any λid=> !(id==r.id))=((ids.drop i).any λid=> !(id==r.id))/\
  fr=[(5,.c (.fp (jc r))),(9,.c (.fz (ids.map encI))),(10,.c (.int .i64 k))]/\V=E G []) ?_ _ _ _ ⟨0,_,rfl,yad _,rfl,rfl,rfl,rfl⟩)
 rintro m fr V ⟨i,k,rfl,hile,hk,hs,rfl,rfl⟩ hrec;by_cases hlt:i<ids.length
 ·rw[yab hlt,List.any_cons]at hs;by_cases h0:ids[i]=r.id
  ·rw[beq_iff_eq.2 h0,Bool.not_true,ybu]at hs;repeat' first|refine X ?_|((first|apply yG|apply yH|apply yI);exact rfl;(first|exact yax encI hk hlt))|exact yaF|refine Y ?_ ?_<;>intro _
   all_goals first
    |exact Go.keep [5,9,10] (hrec _ _ _ O ⟨i+1,_,rfl,hlt,wb hk O,hs,rfl,rfl⟩)
    |(exfalso;simp_all;done)
  ·rw[beq_eq_false_iff_ne.2 h0,Bool.not_false,Bool.true_or]at hs;repeat' first|refine X ?_|((first|apply yG|apply yH|apply yI);exact rfl;(first|exact yax encI hk hlt))|exact yaF|refine Y ?_ ?_<;>intro _
   all_goals first
    |exact .ret rfl (.bool hs.symm)
    |(exfalso;simp_all;done)
 ·repeat' first|refine X ?_|exact yaF|refine Y ?_ ?_<;>intro _
  rw[yac O,List.any_nil]at hs;exact .ret rfl (.bool hs.symm)
theorem wka(t:zd)(d:Data)(r:RowD)(hr:d.rows.length<=1048576)(hu:t.uniques.length<=3)(hx:∀k∈zt t,k.length<=34359738368)(hv:∀k∈zt t,InR k r.vals.length)(hi:∀k∈zt t,∀r∈d.rows,InR k r.vals.length):
 Pure Tryz.prog 349 [.agg (ja t),.agg (jb d),.agg (jc r)] (.c (.bool (!((zt t).any (wdk d.rows r))))):=by
 refine yaq [3,4,5] wga λG=>?_;have hk0:t.key∈zt t:=by simp[zt]
 have c1:=zhk d t.key r hr (hx _ hk0) (hv _ hk0) (hi _ hk0);rw[zt,List.any_cons,List.any_map]
 cases hb:wdk d.rows r t.key
 ·rw[hb]at c1;rw[ybu];repeat' first|refine X ?_|refine yaC (c1) ?_|exact yaF|refine Y ?_ ?_<;>intro _
  refine Go.keep [3,4,5,7] (Go.loops (I:=λm fr V=>∃(i:Nat) (k:Int),m=t.uniques.length-i/\i<=t.uniques.length/\k=i/\(t.uniques.any (wdk d.rows r∘(·.cols)))=((t.uniques.drop i).any (wdk d.rows r∘(·.cols)))/\
   fr=[(3,.c (.fp (ja t))),(4,.c (.fp (jb d))),(5,.c (.fp (jc r))),(7,.c (.int .i64 k))]/\V=E G []) ?_ _ _ _ ⟨0,_,rfl,yad _,rfl,rfl,rfl,rfl⟩)
  rintro m fr V ⟨i,k,rfl,hile,hk,hs,rfl,rfl⟩ hrec;by_cases hlt:i<t.uniques.length
  ·have hki:t.uniques[i].cols∈zt t:=by rw[zt];exact List.mem_cons_of_mem _ (List.mem_map.2 ⟨_,yaa hlt,rfl⟩)
   have c2:=zhk d t.uniques[i].cols r hr (hx _ hki) (hv _ hki) (hi _ hki);rw[yab hlt,List.any_cons,Function.comp_apply]at hs
   cases hq:wdk d.rows r t.uniques[i].cols
   ·rw[hq]at c2 hs;rw[ybu]at hs;repeat' first|refine X ?_|((first|apply yG|apply yH|apply yI);exact rfl;(first|exact yax jo hk hlt))|refine yaC (c2) ?_|exact yaF|refine Y ?_ ?_<;>intro _
    exact Go.keep [3,4,5,7] (hrec _ _ _ O ⟨i+1,_,rfl,hlt,wb hk O,hs,rfl,rfl⟩)
   ·rw[hq]at c2 hs;rw[Bool.true_or]at hs;repeat' first|refine X ?_|((first|apply yG|apply yH|apply yI);exact rfl;(first|exact yax jo hk hlt))|refine yaC (c2) ?_|exact yaF|refine Y ?_ ?_<;>intro _
    exact .ret rfl (.bool (by rw[hs];rfl))
  ·repeat' first|refine X ?_|exact yaF|refine Y ?_ ?_<;>intro _
   rw[yac O,List.any_nil]at hs;exact .ret rfl (.bool (by rw[hs];rfl))
 ·rw[hb]at c1;repeat' first|refine X ?_|refine yaC (c1) ?_|exact yaF|refine Y ?_ ?_<;>intro _
  exact .ret rfl (.bool rfl)
def wl1(s:List zd)(f:Fk):Int:=idxA (λu:zd=>u.name==f.table) s 0
def wn6(s:List zd)(n:Int):List Int:=match s[n.toNat]? with|some u=>u.key|none=>[]
def zkb(s:List zd)(db:List Data)(f:Fk)(vals:List Val):Bool:=jaf f.cols vals&&(((zad (zng db (wl1 s f)) (wn6 s (wl1 s f)) (keyF f.cols vals)).length:Int)==0)
structure FkR(s:List zd)(db:List Data)(vals:List Val)(f:Fk)(n:Nat):Prop where
 lt:n<s.length
 lt2:n<db.length
 idx:wl1 s f=(n:Int)
 rows:db[n].rows.length<=1048576
 key:s[n].key.length<=34359738368
 cols:f.cols.length<=34359738368
 own:InR f.cols vals.length
 far:∀r∈db[n].rows,InR s[n].key r.vals.length
theorem FkR.val(h:FkR s db vals f n):zkb s db f vals=(jaf f.cols vals&&(((zad (db[n]'h.lt2).rows (s[n]'h.lt).key (keyF f.cols vals)).length:Int)==0)):=by
 rw[zkb,h.idx,zng,wn6,ybh,yag h.lt,yag h.lt2]
theorem zl2(s:List zd)(db:List Data)(f:Fk)(vals:List Val)(n:Nat)(hs:s.length<=34359738368)(h:FkR s db vals f n):Pure Tryz.prog 300 [.c (.fz (s.map ja)),.c (.fz (db.map jb)),.agg (j3 f),.c (.fz (vals.map encV))] (.c (.bool (zkb s db f vals))):=by
 refine yaq [6] jh6 λG=>?_;have c1:=zav s f.table hs;have hidx:idxA (λu:zd=>u.name==f.table) s 0=(n:Int):=h.idx;rw[hidx]at c1;have c2:=wfm f.cols vals h.cols h.own;have hlt:=h.lt;have hlt2:=h.lt2;have c3:=jm3 db[n].rows s[n].key (keyF f.cols vals) h.rows h.key h.far;rw[h.val];generalize zad db[n].rows s[n].key (keyF f.cols vals)=ids at c3⊢;generalize keyF f.cols vals=ks at c2 c3
 cases hw:jaf f.cols vals
 ·rw[hw]at c2;repeat' first|refine X ?_|refine yaC (c1) ?_|refine yaC (c2) ?_|exact yaF|refine Y ?_ ?_<;>intro _
  exact .ret rfl (.bool rfl)
 ·rw[hw]at c2;repeat' first|refine X ?_|((first|apply yG|apply yH|apply yI);exact rfl;(first|exact yax ja rfl hlt|exact yax jb rfl hlt2))|refine yaC (c1) ?_|refine yaC (c2) ?_|refine yaC (c3) ?_|exact yaF|refine Y ?_ ?_<;>intro _
  exact .ret rfl (.bool rfl)
theorem jkb(s:List zd)(db:List Data)(f:Fk)(vals:List Val)(n:Nat)(hs:s.length<=34359738368)(h:FkR s db vals f n):Pure Tryz.prog 364 [.c (.fz (s.map ja)),.c (.fz (db.map jb)),.agg (j3 f),.c (.fz (vals.map encV))] (.c (.bool (!zkb s db f vals))):=by
 refine yaq [6] wgb λG=>?_;have c1:=jc1 s f.table hs;have hidx:idxA (λu:zd=>u.name==f.table) s 0=(n:Int):=h.idx;rw[hidx]at c1;have c2:=wbp f.cols vals h.cols h.own;have hlt:=h.lt;have hlt2:=h.lt2;have c3:=jgo db[n] s[n].key (keyF f.cols vals) h.rows h.key h.far;rw[h.val];generalize zad db[n].rows s[n].key (keyF f.cols vals)=ids at c3⊢;generalize keyF f.cols vals=ks at c2 c3
 cases hw:jaf f.cols vals
 ·rw[hw]at c2;repeat' first|refine X ?_|refine yaC (c1) ?_|refine yaC (c2) ?_|exact yaF|refine Y ?_ ?_<;>intro _
  exact .ret rfl (.bool rfl)
 ·rw[hw]at c2;repeat' first|refine X ?_|((first|apply yG|apply yH|apply yI);exact rfl;(first|exact yax ja rfl hlt|exact yax jb rfl hlt2))|refine yaC (c1) ?_|refine yaC (c2) ?_|refine yaC (c3) ?_|exact yaF|refine Y ?_ ?_<;>intro _
  refine .ret rfl (.bool ?_);rw[yaz];by_cases h0:(ids.length:Int)=0
  ·rw[beq_iff_eq.2 h0];exact decide_eq_false O
  ·rw[beq_eq_false_iff_ne.2 h0];exact decide_eq_true O
def wq(s:List zd)(db:List Data)(df:Bool)(vals:List Val)(f:Fk):Bool:=(df|| !f.deferred)&&zkb s db f vals
theorem jig(s:List zd)(db:List Data)(f:Fk)(vals:List Val)(df:Bool)(n:Nat)(hs:s.length<=34359738368)(h:FkR s db vals f n):Pure Tryz.prog 299 [.agg (j3 f),.c (.fp [.bool df]),.c (.fp [.fz (s.map ja)]),.c (.fp [.fz (db.map jb)]),.c (.fp [.fz (vals.map encV)])] (.c (.bool (wq s db df vals f))):=by
 refine yaq [5] jd5 λG=>?_;have c1:=zl2 s db f vals n hs h;rw[wq];generalize zkb s db f vals=b at c1⊢
 cases df
 ·cases hd:f.deferred
  ·repeat' first|refine X ?_|refine yaC (c1) ?_|exact yaF|refine Y ?_ ?_<;>intro _
   all_goals first
    |exact .ret rfl (.bool rfl)
    |(exfalso;simp_all;done)
    |(refine .ret rfl (.bool ?_);simp_all;done)
  ·repeat' first|refine X ?_|refine yaC (c1) ?_|exact yaF|refine Y ?_ ?_<;>intro _
   all_goals first
    |exact .ret rfl (.bool rfl)
    |(exfalso;simp_all;done)
    |(refine .ret rfl (.bool ?_);simp_all;done)
 ·repeat' first|refine X ?_|refine yaC (c1) ?_|exact yaF|refine Y ?_ ?_<;>intro _
  all_goals first
   |exact .ret rfl (.bool rfl)
   |(exfalso;simp_all;done)
   |(refine .ret rfl (.bool ?_);simp_all;done)
theorem je2(s:List zd)(db:List Data)(t:zd)(vals:List Val)(df:Bool)(hs:s.length<=34359738368)(hn:t.fks.length<=34359738368)(h:∀f∈t.fks,∃n,FkR s db vals f n):Pure Tryz.prog 223 [.c (.fz (s.map ja)),.c (.fz (db.map jb)),.agg (ja t),.c (.fz (vals.map encV)),.c (.bool df)] (.c (.bool (t.fks.any (wq s db df vals)))):=by
 refine yaq [5,6,7,8,9] jfe λG=>?_;have cc:=wj mixed jac wai j3 (λu=>.agg (j3 u)) (λ_=>rfl) (λ_=>rfl) t.fks (wq s db df vals) 299 [] [.fp [.bool df],.fp [.fz (s.map ja)],.fp [.fz (db.map jb)],.fp [.fz (vals.map encV)]] hn (λj hj _=>by
  obtain⟨n,hq⟩:=h _ (yaa hj);exact jig s db _ vals df n hs hq)
 generalize t.fks.any (wq s db df vals)=b at cc⊢;repeat' first|refine X ?_|refine yaC (cc) ?_|exact yaF|refine Y ?_ ?_<;>intro _
 exact .ret rfl (.bool rfl)
theorem wbu(s:List zd)(db:List Data)(q:Int)(m:Nat)(vals:List Val)(now:Bool)(hs:s.length<=34359738368)(hq:q=(m:Int))(hm:m<s.length)(hn:s[m].fks.length<=3)(h:∀f∈s[m].fks,∃n,FkR s db vals f n):Pure Tryz.prog 325 [.c (.fz (s.map ja)),.c (.fz (db.map jb)),.c (.int .i64 q),.c (.fz (vals.map encV)),.c (.bool now)] (.c (.bool (!(s[m].fks.any (wq s db (!now) vals))))):=by
 refine yaq [] wf9 λG=>?_;repeat' first|refine X ?_|exact yaF|refine Y ?_ ?_<;>intro _
 refine Go.keep [0,1,2,3,4,11] (Go.loops (I:=λmm fr V=>∃(i:Nat) (k:Int),mm=s[m].fks.length-i/\i<=s[m].fks.length/\k=i/\s[m].fks.any (wq s db (!now) vals)=(s[m].fks.drop i).any (wq s db (!now) vals)/\
  fr=[(0,.c (.fz (s.map ja))),(1,.c (.fz (db.map jb))),(2,.c (.int .i64 q)),(3,.c (.fz (vals.map encV))),(4,.c (.bool now)),(11,.c (.int .i64 k))]/\V=E G []) ?_ _ _ _ ⟨0,_,rfl,yad _,rfl,rfl,rfl,rfl⟩)
 rintro mm fr V ⟨i,k,rfl,hi,hk,hsq,rfl,rfl⟩ hrec;by_cases hlt:i<s[m].fks.length
 ·obtain⟨n,hr⟩:=h _ (yaa hlt);have c1:=jkb s db s[m].fks[i] vals n hs hr;rw[yab hlt,List.any_cons,wq]at hsq;generalize zkb s db s[m].fks[i] vals=b at c1 hsq;have skip:(s[m].fks.any (wq s db (!now) vals)=(s[m].fks.drop (i+1)).any (wq s db (!now) vals))->∀fr V,fr=[(0,AV.c (.fz (s.map ja))),(1,.c (.fz (db.map jb))),(2,.c (.int .i64 q)),(3,.c (.fz (vals.map encV))),(4,.c (.bool now)),(11,.c (.int .i64 (IntKind.i64.wrap (k+1))))]->V=E G []->_:=λe fr V h1 h2=>hrec (s[m].fks.length-(i+1)) fr V O ⟨i+1,_,rfl,hlt,wb hk O,e,h1,h2⟩;clear hrec
  cases now<;>cases hd:s[m].fks[i].deferred<;>cases b
  all_goals
   repeat' first|refine X ?_|((first|apply yG|apply yH|apply yI);exact rfl;(first|exact yax ja hq hm|exact yax j3 hk hlt))|refine yaC (c1) ?_|exact yaF|refine Y ?_ ?_<;>intro _
   all_goals first
    |(refine Go.keep [0,1,2,3,4,11] (skip ?_ _ _ rfl rfl);simp_all;done)
    |(refine .ret rfl (.bool ?_);simp_all;done)
    |(exfalso;simp_all;done)
 ·repeat' first|refine X ?_|((first|apply yG|apply yH|apply yI);exact rfl;(first|exact yax ja hq hm))|exact yaF|refine Y ?_ ?_<;>intro _
  rw[yac O,List.any_nil]at hsq;exact .ret rfl (.bool (by rw[hsq];rfl))
def jd9(v:Val)(k:Int):Int:=if v.k=k/\v.n=k+1/\v.s=wby (k+2)then k+3 else -1
def jbd{α:Type}(h:α->Int->Int):List α->Int->Int
 |[],k=>k
 |a::r,k=>if h a k<0 then -1 else jbd h r (h a k)
theorem zdb{α:Type}{h:α->Int->Int}{m:α->Int->α}{c:α->Int}(hm:∀a k,0<=k->h (m a k) k=k+c a)(hc:∀a,0<=c a):∀(xs:List α) (k:Int),0<=k->jbd h (wz m c xs k) k=k+cntL c xs
 |[],k,_=>by simp[wz,jbd,cntL]
 |a::r,k,hk=>by
  have:=hc a;have:=hm a k hk;simp only[wz,jbd,cntL];rw[if_neg O,this,zdb hm hc r _ O];omega
theorem zk8(v:Val)(k:Int)(hk:0<=k):jd9 (zky v k) k=k+3:=by simp[jd9,zky]
theorem wkb(xs:List Val)(k:Int)(hx:xs.length<=34359738368)(hk0:0<=k)(hk:k+cntL (λ_=>3) xs<=34359738368):Pure Tryz.prog 202 [.c (.fz (xs.map encV)),.c (.int .i64 k)] (.c (.int .i64 (jbd jd9 xs k))):=by
 refine yaq [] wf4 λG=>?_;rw[cnt3]at hk;repeat' first|refine X ?_|exact yaF|refine Y ?_ ?_<;>intro _
 refine Go.keep [0,1,5] (Go.loops (I:=λm fr V=>∃i:Nat,∃n l:Int,m=xs.length-i/\i<=xs.length/\n=i/\(l=k+3*i/\jbd jd9 xs k=jbd jd9 (xs.drop i) l)/\
  fr=[(0,.c (.fz (xs.map encV))),(1,.c (.int .i64 l)),(5,.c (.int .i64 n))]/\V=E G []) ?_ _ _ _ ⟨0,_,_,rfl,yad _,rfl,⟨gx,rfl⟩,rfl,rfl⟩)
 rintro m fr V ⟨i,n,l,rfl,hi,hn,⟨hl,hsl⟩,rfl,rfl⟩ hrec;by_cases hlt:i<xs.length
 ·have hw1:IntKind.i64.wrap (l+1)=l+1:=jg O O;have hw2:IntKind.i64.wrap (l+1+1)=l+2:=by rw[jg O O];omega
  have hw3:IntKind.i64.wrap (l+2+1)=l+3:=by rw[jg O O];omega
  have hdr:=yab hlt;have neg:¬(xs[i].k=l/\xs[i].n=l+1/\xs[i].s=wby (l+2))->jbd jd9 xs k=-1:=λh=>by
   have hv:jd9 xs[i] l=-1:=if_neg h;rw[hsl,hdr,jbd,hv]
   rfl
  repeat' first|refine X ?_|((first|apply yG|apply yH|apply yI);exact rfl;(first|exact yax encV hn hlt))|exact yaF|refine Y ?_ ?_<;>intro _
  ·refine .ret rfl (.int ?_);rename_i h9;exact(neg λe=>h9 e.1).symm
  ·refine .ret rfl (.int ?_);rename_i h9;rw[hw1]at h9;exact(neg λe=>h9 e.2.1).symm
  rename_i h1 h2;rw[hw1]at h2⊢;rw[hw2];repeat' first|refine X ?_|((first|apply yG|apply yH|apply yI);exact rfl;(first|exact yax encV hn hlt))|((first|apply yQ|apply yR|apply yS);(iterate 3 exact rfl);exact zal (l+2) O)|exact yaF|refine Y ?_ ?_<;>intro _
  ·refine .ret rfl (.int ?_);rename_i h9;exact(neg λe=>by simp[e.2.2]at h9).symm
  ·refine Go.keep [0,1,5] (hrec _ _ _ O ⟨i+1,_,_,rfl,hlt,wb hn O,⟨hw3.trans O, ?_⟩,rfl,rfl⟩);rename_i h3;have hv:jd9 xs[i] l=l+3:=if_pos ⟨by simpa using h1,by simpa using h2,by simpa using h3⟩;rw[hsl,hdr,jbd,hv,if_neg O,hw3]
 ·repeat' first|refine X ?_|exact yaF|refine Y ?_ ?_<;>intro _
  refine .ret rfl (.int ?_);rw[hsl,yac O]
  rfl
theorem wcl(xs:List Val)(hx:xs.length<=34359738368):jgw Tryz.prog 162 [.c (.fz (xs.map encV))] 3 (xs.map encV):=by
 refine jgw.run mixed zdg gz λG hS hA=>?_;clear hS hA;repeat' first|refine X ?_|exact yaF|refine Y ?_ ?_<;>intro _
 refine Go.app (ys:=[]) (junk:=[]) (zs:=xs.map encV) rfl rfl rfl rfl rfl gx Jk.nil (λe he=>(jak e he).1) gq λv junk hj=>?_;repeat' first|refine X ?_|exact yaF|refine Y ?_ ?_<;>intro _
 exact .ret rfl ⟨v,junk,hj,rfl,rfl⟩
def Rise(l:List RowD):Prop:=l.Pairwise λa b=>a.id<b.id
theorem we2{t:zd}:∀{l:List RowD} {p:Option Int},ja6 t p l=true->Rise l/\∀q,p=some q->∀r∈l,q<r.id
 |[],p,_=>⟨.nil,λq _ r hr=>by simp at hr⟩
 |a::l,p,h=>by
  rw[ja6,yat]at h;obtain⟨h1,h2⟩:=we2 h.2;have h3:=h2 a.id rfl;refine⟨List.pairwise_cons.2 ⟨h3,h1⟩,λq hq r hr=>?_⟩;subst hq;have h4:q<a.id:=by
   have:=h.1;simp only[wc3,wb6,Bool.and_eq_true,decide_eq_true_eq]at this;exact this.2.1
  rcases List.mem_cons.1 hr with rfl|hr
  ·exact h4
  ·exact Int.lt_trans h4 (h3 r hr)
theorem jk8{l:List RowD}(h:zgl t l=true):Rise l:=by
 rw[zgl,yat]at h;exact(we2 h.1).1
theorem jgp(l:List RowD):OldL n (l.map jc):=λe he c hc=>by
 obtain⟨a,_,rfl⟩:=List.mem_map.1 he;simp only[jc,List.mem_cons,List.not_mem_nil,or_false]at hc;rcases hc with rfl|rfl
 ·exact .int _ _
 ·exact zae (jcc jfk)
theorem jb2(l:List Data):OldL n (l.map jb):=λe he c hc=>by
 obtain⟨a,_,rfl⟩:=List.mem_map.1 he;simp only[jb,List.mem_cons,List.not_mem_nil,or_false]at hc;subst hc;exact zae (jgp _)
theorem zbq{l:List RowD}:∀e∈l.map jc,e.length=2:=λe he=>by
 obtain⟨a,_,rfl⟩:=List.mem_map.1 he
 rfl
theorem wm3{l:List Data}:∀e∈l.map jb,e.length=1:=λe he=>by
 obtain⟨a,_,rfl⟩:=List.mem_map.1 he
 rfl
theorem jc5(xs:List Val)(hx:xs.length<=34359738368):Pure Tryz.prog 162 [.c (.fz (xs.map encV))] (.c (.fz (xs.map encV))):=
 NewV.pure λG=>((wcl xs hx).at_ G).mono λr V ⟨v,junk,hj,h1,h2⟩=>by
  subst h1 h2;exact zcq jak hj
structure wnt(t:zd)(d:Data)(x:RowD):Prop where
 uniq:t.uniques.length<=3
 len:∀k∈zt t,k.length<=34359738368
 own:∀k∈zt t,InR k x.vals.length
 far:∀k∈zt t,∀r∈d.rows,InR k r.vals.length
theorem znu:∀e∈xs.map encI,∀x∈e,Flat x:=λe he=>(jas e he).2
theorem jnu(e:List Ce)(x:Ce)(h:e.length=1):zj e 0 [x]=[x]:=by
 rw[zj,List.take_zero,ybs,yac gq,ybg]
theorem zm4{l m:List α}{x:α}(h:i<l.length):(l++m).set i x=l.set i x++m:=List.set_append_left _ _ h
theorem wd9(db:List Data)(q:Int)(n:Nat)(d:Data)(hq:q=(n:Int))(hn:n<db.length)(hd:db.length<=60):Pure Tryz.prog 323 [.c (.fz (db.map jb)),.c (.int .i64 q),.agg (jb d)] (.c (.fz ((db.set n d).map jb))):=by
 refine yaq [5] wh7 λG=>?_;repeat' first|refine X ?_|exact yaF|refine Y ?_ ?_<;>intro _
 refine Go.app (k:=0) (ys:=[]) (junk:=[]) (zs:=db.map jb) rfl rfl rfl rfl rfl (λe he=>by cases he) Jk.nil wm3 gq λv junk hj=>?_;have hn2:n<(db.map jb).length:=by simpa using hn
 have hg:(E G [(v,[]++db.map jb++junk)]).get (G.next+0)=some (v,[]++db.map jb++junk):=zlj (k:=0) rfl;have he:([]++db.map jb++junk)[0+n]?=some (jb db[n]):=by
  rw[ybs,ybo,ybb hn2];simp[hn]
 have he2:([]++db.map jb++junk)[0+n]?=some (jb db[n]):=he;repeat' first|refine X ?_|((first|apply yG|apply yH|apply yI);exact rfl;(first|exact je rfl rfl hq (by simpa using hn2) hg he rfl|exact jm (k:=0) rfl rfl rfl rfl he2 rfl gz))|exact yaF|refine Y ?_ ?_<;>intro _
 refine .ret rfl ⟨_,rfl, ?_⟩;have e1:([]++db.map jb++junk).set (0+n) (zj (jb db[n]) 0 (jb d))=(db.set n d).map jb++junk:=by
  rw[ybs,ybo,show zj (jb db[n]) 0 (jb d)=jb d from jnu _ _ rfl,zm4 hn2,ybm]
 have hz:=jbu (G:=G) (l:=[(v,(db.set n d).map jb++junk)]) (k:=0) (N:=G.next) (v:=v) (ys:=(db.set n d).map jb) (junk:=junk) rfl (jb2 _) (yai _);rw[<-e1]at hz;have e2:vec (G.next+0) v ((db.set n d).map jb) junk=vec (G.next+0) v ([]++db.map jb) junk:=by simp[vec]
 rw[e2]at hz;exact hz
def outC(db:List Data)(i:Nat):List (List Ce):=(db.take i).map jb++List.replicate (db.length-i) [.nils]
theorem wnu(h:i<db.length):(outC db i)[0+i]?=some [.nils]:=by
 rw[outC,ybo,List.getElem?_append_right (by rw[yae,yasq];omega),List.getElem?_replicate,if_pos (by rw[yae,yasq];omega)]
theorem jm4(h:i<db.length):(outC db i).set (0+i) (jb db[i])=outC db (i+1):=by
 have e1:db.length-i=(db.length-(i+1))+1:=O;have e2:i-(db.take i).length=0:=by rw[yasq];omega
 rw[outC,outC,ybo,List.set_append_right _ _ gq,yae,e2,e1,List.replicate_succ,List.set_cons_zero,yaj h,yaqq,ybq]
 rfl
theorem jl2(db:List Data)(hd:db.length<=60)(hr:∀d∈db,d.rows.length<=60/\∀r∈d.rows,r.vals.length<=34359738368):Pure Tryz.prog 69 [.c (.fz (db.map jb))] (.c (.fz (db.map jb))):=by
 refine yap [48] jhw λG hS hA=>?_;clear hA;have hmk:24*db.length<=140737488355328:=O;repeat' first|refine X ?_|((first|apply yG|apply yH|apply yI);exact rfl;(first|exact zw rfl rfl hmk))|exact yaF|refine Y ?_ ?_<;>intro _
 refine Go.keep [0,3,4] (Go.loops (I:=λm fr V=>∃(i:Nat) (k:Int),m=db.length-i/\i<=db.length/\k=i/\
  fr=[(0,.c (.fz (db.map jb))),(3,.c (.sl (G.next+0) 0 0 db.length db.length)),(4,.c (.int .i64 k))]/\V=E G [(0,outC db i)]) ?_ _ _ _ ⟨0,_,rfl,Nat.zero_le _,rfl,rfl,by rw[outC];simp⟩)
 rintro m fr V ⟨i,k,rfl,hi,hk,rfl,rfl⟩ hrec;by_cases hlt:i<db.length
 ·obtain⟨hr1,hr2⟩:=hr _ (yaa hlt);repeat' first|refine X ?_|exact yaF|refine Y ?_ ?_<;>intro _
  refine Go.keep [0,3,4,5,6] (Go.loops (I:=λm fr V=>∃(j:Nat) (kj:Int) (v:Nat) (junk:List (List Ce)),m=db[i].rows.length-j/\j<=db[i].rows.length/\kj=j/\Jk 2 junk/\
   fr=[(0,.c (.fz (db.map jb))),(3,.c (.sl (G.next+0) 0 0 db.length db.length)),(4,.c (.int .i64 k)),(5,.c (vec (G.next+1) v ((db[i].rows.take j).map jc) junk)),(6,.c (.int .i64 kj))]/\V=E G [(0,outC db i),(v,(db[i].rows.take j).map jc++junk)]) ?_ _ _ _ ⟨0,_,0,[],rfl,yad _,rfl,Jk.nil,rfl,rfl⟩)
  rintro m fr V ⟨j,kj,v,junk,rfl,hj,hkj,hjk,rfl,rfl⟩ hrecj;by_cases hltj:j<db[i].rows.length
  ·have hbd:(((db[i].rows.take j).map jc).length+1)*32<=140737488355328:=by rw[yae,yasq];omega
   have e1:(db[i].rows.take j).map jc++[jc db[i].rows[j]]=(db[i].rows.take (j+1)).map jc:=by rw[yaj hltj,yaqq];rfl
   have cc:=jc5 db[i].rows[j].vals (hr2 _ (yaa hltj));repeat' first|refine X ?_|((first|apply yG|apply yH|apply yI);exact rfl;(first|exact yax jb hk hlt|exact yax jc hkj hltj))|(apply Go.sapp1;exact rfl;exact rfl;exact rfl;exact rfl;exact rfl;exact zbq;exact hjk;exact rfl;exact hbd;intro v' junk' hj')|refine yaC (cc) ?_|exact yaF|refine Y ?_ ?_<;>intro _
   refine Go.keep [0,3,4,5,6] (hrecj _ _ _ O ⟨j+1,_,v',junk',rfl,hltj,wb hkj O,hj', ?_, ?_⟩)
   ·rw[<-e1];rfl
   ·rw[<-e1];rfl
  ·clear hrecj;repeat' first|refine X ?_|((first|apply yG|apply yH|apply yI);exact rfl;(first|exact yax jb hk hlt))|exact yaF|refine Y ?_ ?_<;>intro _
   have e1:db[i].rows.take j=db[i].rows:=yan O;rw[e1];refine Go.freezeN (l:=[(0,outC db i)]) (m:=[(v,db[i].rows.map jc++junk)]) (fr':=[(0,.c (.fz (db.map jb))),(3,.c (.sl (G.next+0) 0 0 db.length db.length)),(4,.c (.int .i64 k)),(50,.c (.sl (G.next+0) 0 0 db.length db.length)),(51,.c (.int .i64 k)),(53,.agg [.fz (db[i].rows.map jc)])]) hS (λb hb e he x hx=>?_) (yai _) (.frz rfl (.refl λy hy=>?_) (.frz rfl (.refl (je0 (yao _))) (.frz rfl (.refl ja1) (.frz rfl (.refl (je0 (yao _))) (.frz rfl (.refl ja1) (.frz rfl (.agg rfl λj hj0=>?_) .nil)))))) ?_
   ·rw[List.mem_singleton.1 hb]at he;rcases List.mem_append.1 he with he|he
    ·exact jb2 _ e he x hx
    ·rw[ybj he]at hx;rw[List.mem_singleton.1 hx];exact .nils
   ·rw[List.mem_singleton.1 hy];exact zae (jb2 _)
   ·have hz:FrzV (E G ([(0,outC db i)]++[(v,db[i].rows.map jc++junk)])) (G.next+[(0,outC db i)].length) (.c (vec (G.next+1) v (db[i].rows.map jc) junk)) (.c (.fz (db[i].rows.map jc))):=jbu (k:=1) rfl (jgp _) (yai _);have hj1:j=0:=by have hj9:j<1:=hj0;omega
    subst hj1
    cases hz with
    |c h=>exact h
   have he:=wnu hlt;have hg:(E G [(0,outC db i)]).get (G.next+0)=some (0,outC db i):=zlj (k:=0) rfl;repeat' first|refine X ?_|((first|apply yG|apply yH|apply yI);exact rfl;(first|exact je rfl rfl hk hlt hg he rfl|exact jm (k:=0) rfl rfl rfl rfl he rfl gz))|exact yaF|refine Y ?_ ?_<;>intro _
   refine Go.keep [0,3,4] (hrec _ _ _ O ⟨i+1,_,rfl,hlt,wb hk O,rfl, ?_⟩);rw[<-jm4 hlt]
   rfl
 ·repeat' first|refine X ?_|exact yaF|refine Y ?_ ?_<;>intro _
  refine .ret rfl ⟨_,rfl, ?_⟩;have e1:outC db i=db.map jb++[]:=by rw[outC,yan O,show db.length-i=0 by omega];rfl
  have hz:=jbu (G:=G) (l:=[(0,db.map jb++[])]) (k:=0) (N:=G.next) (v:=0) (ys:=db.map jb) (junk:=[]) rfl (jb2 _) (yai _);rw[<-e1]at hz;have e2:vec (G.next+0) 0 (db.map jb) []=.sl (G.next+0) 0 0 db.length db.length:=by simp[vec]
  rw[e2]at hz;exact hz
def jv(db:List Data)(n:Nat):List RowD:=match db[n]? with|some d=>d.rows|none=>[]
def wav(l:List RowD)(id:Int):Option RowD:=l.find? λr=>r.id==id
def zcd(t:zd)(vals:List Val):Int:=if za7 t 0 vals then 2 else if t.checks.any (zbg vals)then 3 else 0
def wgp(t:zd)(i:Nat):Val:=match t.cols[i]? with|some c=>c.dflt|none=>z6
def jl(t:zd):Nat->List Val->List Val
 |_,[]=>[]
 |i,v::l=>(if v.k==0&&jy t i then wgp t i else v)::jl t (i+1) l
def w8(l:List RowD)(id:Int):List RowD:=l.filter λr=> !(r.id==id)
def setRow(l:List RowD)(x:RowD):List RowD:=l.map λr=>if r.id==x.id then x else r
def zp(casc:Bool):List Int->List Val->List Val->List Val
 |[],_,vals=>vals
 |c::cs,w,vals=>zp casc cs w.tail (vals.set c.toNat (if casc then w.headD z6 else z6))
inductive Chg where
 |del (n:Nat) (id:Int)
 |upd (n:Nat) (id:Int) (vals:List Val) (rep:Bool)
abbrev Res:=List Data×Int
def zaa(run:Chg->List Data->Res)(n:Nat):List Int->List Data->Res
 |[],db=>(db,0)
 |id::l,db=>if(wav (jv db n) id).isNone then zaa run n l db else if(run (.del n id) db).2=0 then zaa run n l (run (.del n id) db).1 else([],(run (.del n id) db).2)
def wad(run:Chg->List Data->Res)(t:zd)(n:Nat)(x:RowD)(rep:Bool)(db:List Data):Res:=
 if(decide (0<(j8 (jv db n) (zt t) x.id x.vals).length)&& !rep)=true then([],4)else zaa run n (j8 (jv db n) (zt t) x.id x.vals) db
structure Way where
 act:Int
 wait:Bool
 cols:List Int
def oneF(run:Chg->List Data->Res)(n:Nat)(y:Way)(wth:List Val)(gone:Bool)(x:RowD)(db:List Data):Res:=
 if y.act=0 then(if y.wait then(db,0)else([],5))
 else if y.act=1/\gone=true then run (.del n x.id) db
 else run (.upd n x.id (zp (y.act==1) y.cols wth x.vals) false) db
def wag(run:Chg->List Data->Res)(n:Nat)(y:Way)(key wth:List Val)(gone:Bool):List Int->List Data->Res
 |[],db=>(db,0)
 |id::l,db=>match wav (jv db n) id with
  |none=>wag run n y key wth gone l db
  |some x=>if hasB y.cols key x.vals=true then(if(oneF run n y wth gone x db).2=0 then wag run n y key wth gone l (oneF run n y wth gone x db).1 else([],(oneF run n y wth gone x db).2))else wag run n y key wth gone l db
def wc5(f:Fk)(gone:Bool):Way:=⟨if gone then f.onDelete else f.onUpdate,f.deferred,f.cols⟩
def zbb(run:Chg->List Data->Res)(name:List UInt8)(i:Nat)(key wth:List Val)(gone:Bool):List Fk->List Data->Res
 |[],db=>(db,0)
 |f::l,db=>if f.table=name then
  (if(wag run i (wc5 f gone) key wth gone (zad (jv db i) f.cols key) db).2=0 then zbb run name i key wth gone l (wag run i (wc5 f gone) key wth gone (zad (jv db i) f.cols key) db).1
   else([],(wag run i (wc5 f gone) key wth gone (zad (jv db i) f.cols key) db).2))
  else zbb run name i key wth gone l db
def zam(run:Chg->List Data->Res)(name:List UInt8)(key wth:List Val)(gone:Bool):Nat->List zd->List Data->Res
 |_,[],db=>(db,0)
 |i,t::l,db=>if(zbb run name i key wth gone t.fks db).2=0 then zam run name key wth gone (i+1) l (zbb run name i key wth gone t.fks db).1 else([],(zbb run name i key wth gone t.fks db).2)
def tabN(s:List zd)(n:Nat):zd:=match s[n]? with|some t=>t|none=>⟨[],[],[],[],[],[]⟩
def jz(run:Chg->List Data->Res)(s:List zd)(n:Nat)(key wth:List Val)(gone:Bool)(db:List Data):Res:=zam run (tabN s n).name key wth gone 0 s db
def wbd(s:List zd)(n:Nat)(id:Int)(db:List Data):Res:=match wav (jv db n) id with
 |none=>(db,0)
 |some y=>if((tabN s n).fks.any λf=>wq s db false y.vals f)=true then([],5)else(db,0)
def upd3(s:List zd)(n:Nat)(id:Int)(d:Res):Res:=if d.2=0 then wbd s n id d.1 else([],d.2)
def upd2(run:Chg->List Data->Res)(s:List zd)(n:Nat)(id:Int)(vals:List Val)(old:RowD)(db:List Data):Res:=
 if keyF (tabN s n).key old.vals=keyF (tabN s n).key vals then(db.set n ⟨setRow (jv db n) ⟨id,vals⟩⟩,0)else jz run s n (keyF (tabN s n).key old.vals) (keyF (tabN s n).key vals) false (db.set n ⟨setRow (jv db n) ⟨id,vals⟩⟩)
def upd1(run:Chg->List Data->Res)(s:List zd)(n:Nat)(id:Int)(vals:List Val)(c:Res):Res:=
 if c.2=0 then(match wav (jv c.1 n) id with
  |none=>([],9)
  |some old=>upd3 s n id (upd2 run s n id vals old c.1))else([],c.2)
def updF(run:Chg->List Data->Res)(s:List zd)(n:Nat)(id:Int)(vals:List Val)(rep:Bool)(db:List Data):Res:=
 if zcd (tabN s n) vals=0 then upd1 run s n id vals (wad run (tabN s n) n ⟨id,vals⟩ rep db)else([],zcd (tabN s n) vals)
def chgF(s:List zd):Nat->Chg->List Data->Res
 |0,_,_=>([],6)
 |k+1,.del n id,db=>match wav (jv db n) id with
  |none=>([],9)
  |some x=>jz (chgF s k) s n (keyF (tabN s n).key x.vals) [] true (db.set n ⟨w8 (jv db n) id⟩)
 |k+1,.upd n id vals0 rep,db=>updF (chgF s k) s n id (if rep then jl (tabN s n) 0 vals0 else vals0) rep db
end Go.Proofs.YtedaadaaibofaaaGreat.Am
namespace Go.Proofs.YtedaadaaibofaaaGreat.Am
variable {I:Nat->Int->Prop}{Q:Int->Prop}

structure wdu(Q:Int->Prop)(t:zd)(l:List RowD):Prop where
 len:l.length<=60
 ids:∀r∈l,Q r.id
 rise:Rise l
 fit:∀r∈l,r.vals.length=t.cols.length/\jt r.vals 16=true
structure DbG(I:Nat->Int->Prop)(s:List zd)(db:List Data):Prop where
 len:db.length=s.length
 rows:∀i (h:i<s.length) (h2:i<db.length),wdu (I i) s[i] db[i].rows
structure SchG(s:List zd):Prop where
 few:s.length<=5
 key0:∀t∈s,0<t.key.length
 big:∀t∈s,zah 34359738368 t
 ref:∀t∈s,∀f∈t.fks,∃n,n<s.length/\wl1 s f=(n:Int)
 met:∀t∈s,∀f∈t.fks,∀n (h:n<s.length),f.table=s[n].name->f.cols.length=s[n].key.length
 tab:∀t∈s,wk6 t
 dflt:∀t∈s,∀c∈t.cols,ju c.dflt=true
variable {db:List Data}{n:Nat}
theorem jf(h:n<db.length):jv db n=db[n].rows:=by rw[jv,yag h]
variable {s:List zd}
theorem zr(h:n<s.length):tabN s n=s[n]:=by rw[tabN,yag h]
theorem DbG.at(h:DbG I s db){n:Nat}(hn:n<s.length):wdu (I n) s[n] (jv db n):=by
 rw[jf (by rw[h.len];exact hn)];exact h.rows n hn _
theorem DbG.set(h:DbG I s db){n:Nat}(hn:n<s.length){l:List RowD}(hl:wdu (I n) s[n] l):DbG I s (db.set n ⟨l⟩):=by
 refine⟨by rw[yarq];exact h.len,λi h1 h2=>?_⟩;rw[List.getElem_set];split
 ·rename_i e;subst e;exact hl
 ·exact h.rows i h1 _
variable {l:List RowD}
theorem z8{id:Int}{x:RowD}(h:wav l id=some x):x∈l/\x.id=id:=⟨List.mem_of_find?_eq_some h,by simpa using List.find?_some h⟩
variable {t:zd}
theorem wdu.drop(h:wdu Q t l)(id:Int):wdu Q t (w8 l id):=
 ⟨yaf (ybt _ _) h.len,λr hr=>h.ids r (List.mem_filter.1 hr).1,List.Pairwise.filter _ h.rise,λr hr=>h.fit r (List.mem_filter.1 hr).1⟩
theorem wdu.set(h:wdu Q t l){x:RowD}(hx:x.vals.length=t.cols.length/\jt x.vals 16=true):wdu Q t (setRow l x):=by
 refine⟨by rw[setRow,yae];exact h.len,λr hr=>?_, ?_,λr hr=>?_⟩
 ·obtain⟨q,hq,rfl⟩:=List.mem_map.1 hr;split
  ·rename_i e;rw[<-beq_iff_eq.1 e];exact h.ids q hq
  ·exact h.ids q hq
 ·refine List.pairwise_map.2 (h.rise.imp λ{a b} hab=>?_);have hab:a.id<b.id:=hab;have key:∀r:RowD,(if r.id==x.id then x else r).id=r.id:=λr=>by
   split
   ·rename_i e;exact(beq_iff_eq.1 e).symm
   ·rfl
  rw[key,key];exact hab
 ·obtain⟨q,hq,rfl⟩:=List.mem_map.1 hr;split
  ·exact hx
  ·exact h.fit q hq
theorem zf{l:List Val}:jt l 16=true↔l.length<=16/\∀v∈l,ju v=true:=by
 rw[jt,yat,decide_eq_true_eq,List.all_eq_true];constructor
 ·rintro⟨h1,h2⟩;exact⟨O,h2⟩
 ·rintro⟨h1,h2⟩;exact⟨O,h2⟩
theorem jhk{t:zd}(ht:∀c∈t.cols,ju c.dflt=true):∀{l:List Val} {i:Nat},(∀v∈l,ju v=true)->(jl t i l).length=l.length/\∀v∈jl t i l,ju v=true
 |[],_,_=>⟨rfl,λv hv=>by cases hv⟩
 |v::l,i,h=>by
  obtain⟨h1,h2⟩:=jhk ht (l:=l) (i:=i+1) λw hw=>h w (by simp[hw]);refine⟨by rw[jl,List.length_cons,List.length_cons,h1],λw hw=>?_⟩;rw[jl]at hw;rcases List.mem_cons.1 hw with rfl|hw
  ·split
   ·rw[wgp];split
    ·rename_i c hc;exact ht c (List.mem_of_getElem? hc)
    ·rfl
   ·exact h v gx
  ·exact h2 w hw
theorem wbq{casc:Bool}:∀{cs:List Int} {w vals:List Val},(∀v∈w,ju v=true)->(∀v∈vals,ju v=true)->(zp casc cs w vals).length=vals.length/\∀v∈zp casc cs w vals,ju v=true
 |[],_,_,_,h=>⟨rfl,h⟩
 |c::cs,w,vals,hw,h=>by
  rw[zp];have hh:ju (if casc=true then w.headD z6 else z6)=true:=by
   split
   ·cases w with
    |nil=>rfl
    |cons a r=>exact hw a gx
   ·rfl
  obtain⟨h1,h2⟩:=wbq (casc:=casc) (cs:=cs) (w:=w.tail) (vals:=vals.set c.toNat (if casc=true then w.headD z6 else z6)) (λv hv=>hw v (List.mem_of_mem_tail hv)) λv hv=>by
   rcases ybe hv with hv|rfl
   ·exact h v hv
   ·exact hh
  exact⟨by rw[h1,yarq],h2⟩
def zkc(s:List zd):Chg->Prop
 |.del n _=>n<s.length
 |.upd n _ vals _=>∃h:n<s.length,vals.length=s[n].cols.length/\jt vals 16=true
def zgq(I:Nat->Int->Prop)(s:List zd)(run:Chg->List Data->Res):Prop:=∀op db,DbG I s db->zkc s op->(run op db).2=0->DbG I s (run op db).1
section
variable {s:List zd}{run:Chg->List Data->Res}
theorem zdv(hr:zgq I s run){n:Nat}(hn:n<s.length):∀{l:List Int} {db:List Data},DbG I s db->(zaa run n l db).2=0->DbG I s (zaa run n l db).1
 |[],_,h,_=>h
 |id::l,db,h,h0=>by
  rw[zaa]at h0⊢;split
  ·rename_i h1;rw[if_pos h1]at h0;exact zdv hr hn h h0
  ·rename_i h1;rw[if_neg h1]at h0;split
   ·rename_i h2;rw[if_pos h2]at h0;exact zdv hr hn (hr _ _ h hn h2) h0
   ·rename_i h2;rw[if_neg h2]at h0;exact absurd h0 h2
theorem zbv(hr:zgq I s run){n:Nat}(hn:n<s.length){t:zd}{x:RowD}{rep:Bool}{db:List Data}(h:DbG I s db)(h0:(wad run t n x rep db).2=0):DbG I s (wad run t n x rep db).1:=by
 rw[wad]at h0⊢;split
 ·rename_i h1;rw[if_pos h1]at h0
  cases h0
 ·rename_i h1;rw[if_neg h1]at h0;exact zdv hr hn h h0
theorem wl2(hr:zgq I s run){n:Nat}(hn:n<s.length){y:Way}{wth:List Val}{gone:Bool}{x:RowD}{db:List Data}(h:DbG I s db)(hw:∀v∈wth,ju v=true)(hx:x∈jv db n)(h0:(oneF run n y wth gone x db).2=0):DbG I s (oneF run n y wth gone x db).1:=by
 rw[oneF]at h0⊢;split
 ·rename_i h1;rw[if_pos h1]at h0;split
  ·exact h
  ·rename_i h2;rw[if_neg h2]at h0
   cases h0
 ·rename_i h1;rw[if_neg h1]at h0;split
  ·rename_i h2;rw[if_pos h2]at h0;exact hr _ _ h hn h0
  ·rename_i h2;rw[if_neg h2]at h0;obtain⟨f1,f2⟩:=(h.at hn).fit x hx;obtain⟨f3,f4⟩:=zf.1 f2;obtain⟨g1,g2⟩:=wbq (casc:=y.act==1) (cs:=y.cols) hw f4;exact hr _ _ h ⟨hn,by rw[g1];exact f1,zf.2 ⟨O,g2⟩⟩ h0
theorem jcd(hr:zgq I s run){n:Nat}(hn:n<s.length){y:Way}{key wth:List Val}{gone:Bool}(hw:∀v∈wth,ju v=true):∀{l:List Int} {db:List Data},DbG I s db->(wag run n y key wth gone l db).2=0->DbG I s (wag run n y key wth gone l db).1
 |[],_,h,_=>h
 |id::l,db,h,h0=>by
  rw[wag]at h0⊢
  cases hb:wav (jv db n) id with
  |none=>
   rw[hb]at h0;exact jcd hr hn hw h h0
  |some x=>
   rw[hb]at h0;simp only at h0⊢;split
   ·rename_i h1;rw[if_pos h1]at h0;split
    ·rename_i h2;rw[if_pos h2]at h0;exact jcd hr hn hw (wl2 hr hn h hw (z8 hb).1 h2) h0
    ·rename_i h2;rw[if_neg h2]at h0;exact absurd h0 h2
   ·rename_i h1;rw[if_neg h1]at h0;exact jcd hr hn hw h h0
theorem jgq(hr:zgq I s run){i:Nat}(hi:i<s.length){name:List UInt8}{key wth:List Val}{gone:Bool}(hw:∀v∈wth,ju v=true):∀{l:List Fk} {db:List Data},DbG I s db->(zbb run name i key wth gone l db).2=0->DbG I s (zbb run name i key wth gone l db).1
 |[],_,h,_=>h
 |f::l,db,h,h0=>by
  rw[zbb]at h0⊢;split
  ·rename_i h1;rw[if_pos h1]at h0;split
   ·rename_i h2;rw[if_pos h2]at h0;exact jgq hr hi hw (jcd hr hi hw h h2) h0
   ·rename_i h2;rw[if_neg h2]at h0;exact absurd h0 h2
  ·rename_i h1;rw[if_neg h1]at h0;exact jgq hr hi hw h h0
theorem wgq(hr:zgq I s run){name:List UInt8}{key wth:List Val}{gone:Bool}(hw:∀v∈wth,ju v=true):∀{l:List zd} {i:Nat} {db:List Data},i+l.length<=s.length->DbG I s db->(zam run name key wth gone i l db).2=0->DbG I s (zam run name key wth gone i l db).1
 |[],_,_,_,h,_=>h
 |t::l,i,db,hi,h,h0=>by
  rw[List.length_cons]at hi;rw[zam]at h0⊢;split
  ·rename_i h2;rw[if_pos h2]at h0;exact wgq hr hw O (jgq hr O hw h h2) h0
  ·rename_i h2;rw[if_neg h2]at h0;exact absurd h0 h2
theorem zbj(hr:zgq I s run){n:Nat}{key wth:List Val}{gone:Bool}(hw:∀v∈wth,ju v=true){db:List Data}(h:DbG I s db)(h0:(jz run s n key wth gone db).2=0):DbG I s (jz run s n key wth gone db).1:=
 wgq hr hw O h h0
theorem wm4{id:Int}(h:DbG I s db)(h0:(wbd s n id db).2=0):DbG I s (wbd s n id db).1:=by
 rw[wbd]at h0⊢;split
 ·exact h
 ·rename_i y hy;rw[hy]at h0;simp only at h0;split
  ·rename_i h1;rw[if_pos h1]at h0
   cases h0
  ·exact h
end
theorem zea(ht:wk6 t){vals:List Val}(hl:vals.length=t.cols.length)(hv:jt vals 16=true):∀v∈keyF t.key vals,ju v=true:=λv hv2=>by
 obtain⟨c,hc,rfl⟩:=List.mem_map.1 hv2;obtain⟨h1,h2⟩:=ht.key c hc;have:c.toNat<vals.length:=O;rw[zka,yag this];exact(zf.1 hv).2 _ (yaa _)
theorem znv{run:Chg->List Data->Res}(hs:SchG s)(hr:zgq I s run){n:Nat}(hn:n<s.length){id:Int}{vals:List Val}(hvv:vals.length=s[n].cols.length/\jt vals 16=true){rep:Bool}{db:List Data}(h:DbG I s db)(h0:(updF run s n id vals rep db).2=0):DbG I s (updF run s n id vals rep db).1:=by
 rw[updF,zr hn]at h0⊢;split
 ·rename_i h1;rw[if_pos h1]at h0;have hc:=λ(h2:(wad run s[n] n ⟨id,vals⟩ rep db).2=0)=>zbv hr hn (t:=s[n]) (x:=⟨id,vals⟩) (rep:=rep) h h2;generalize wad run s[n] n ⟨id,vals⟩ rep db=c at h0 hc⊢;rw[upd1]at h0⊢;split
  ·rename_i h2;rw[if_pos h2]at h0;have hc:=hc h2;generalize c.1=db1 at h0 hc⊢;split
   ·rename_i hx;rw[hx]at h0
    cases h0
   ·rename_i old hx;rw[hx]at h0;simp only at h0;have hset:=hc.set hn ((hc.at hn).set (x:=⟨id,vals⟩) hvv);have hd:(upd2 run s n id vals old db1).2=0->DbG I s (upd2 run s n id vals old db1).1:=λh3=>by
     rw[upd2,zr hn]at h3⊢;split
     ·exact hset
     ·rename_i h5;rw[if_neg h5]at h3;exact zbj hr (zea (hs.tab _ (yaa hn)) hvv.1 hvv.2) hset h3
    generalize upd2 run s n id vals old db1=d at h0 hd⊢;rw[upd3]at h0⊢;split
    ·rename_i h4;rw[if_pos h4]at h0;exact wm4 (hd h4) h0
    ·rename_i h4;rw[if_neg h4]at h0;exact absurd h0 h4
  ·rename_i h2;rw[if_neg h2]at h0;exact absurd h0 h2
 ·rename_i h1;rw[if_neg h1]at h0;exact absurd h0 h1
theorem whk(hs:SchG s){n:Nat}(hn:n<s.length){vals:List Val}(hl:vals.length=s[n].cols.length)(hv:jt vals 16=true)(rep:Bool):(if rep=true then jl s[n] 0 vals else vals).length=s[n].cols.length/\jt (if rep=true then jl s[n] 0 vals else vals) 16=true:=by
 split
 ·obtain⟨g1,g2⟩:=jhk (hs.dflt _ (yaa hn)) (i:=0) (zf.1 hv).2;exact⟨by rw[g1];exact hl,zf.2 ⟨by rw[g1];exact(zf.1 hv).1,g2⟩⟩
 ·exact⟨hl,hv⟩
theorem zbe{s:List zd}(hs:SchG s):∀k,zgq I s (chgF s k)
 |0=>λop db h ho h0=>by
  rw[chgF]at h0
  cases h0
 |k+1=>λop db h ho h0=>by
  have hr:=zbe hs k
  cases op with
  |del n id=>
   have hn:n<s.length:=ho;rw[chgF]at h0⊢;split
   ·rename_i hx;rw[hx]at h0
    cases h0
   ·rename_i x hx;rw[hx]at h0;simp only at h0;exact zbj hr (λv hv=>by cases hv) (h.set hn ((h.at hn).drop id)) h0
  |upd n id vals0 rep=>
   obtain⟨hn,hl,hv⟩:=ho;rw[chgF,zr hn]at h0⊢;exact znv hs hr hn (whk hs hn hl hv rep) h h0
end Go.Proofs.YtedaadaaibofaaaGreat.Am
namespace Go.Proofs.YtedaadaaibofaaaGreat.Am
def idOf:Ce->Option Nat|.sl id _ _ _ _=>some id|_=>none
variable {vals:List Val}
theorem jcq:∀e∈vals.map encV,e.length=3/\∀x∈e,Flat x:=λe he=>by
 obtain⟨v,_,rfl⟩:=List.mem_map.1 he;refine⟨rfl,λx hx=>?_⟩;simp only[encV,List.mem_cons,List.not_mem_nil,or_false]at hx;rcases hx with rfl|rfl|rfl
 ·exact .int _ _
 ·exact .int _ _
 ·exact .str _
variable {V:wa}{id:Nat}
theorem jnv{v:Nat}{ys junk:List (List Ce)}(hg:V.get id=some (v,ys++junk))(hy:∀e∈ys,∀x∈e,Old 0 x):FrzV V 0 (.c (vec id v ys junk)) (.c (.fz ys)):=by
 refine .c (.sl _ _ _ _ _ (ys++junk) _ (yad _) hg gx rfl (λi hi=>?_) (λi j hi hj=>?_))
 ·simp only[Nat.zero_add];rw[yapq hi]
 ·have e:(ys++junk)[0+i]'gq=ys[i]:=by
   simp only[Nat.zero_add];rw[yapq hi]
  simp only[e];exact .same _ (hy _ (yaa hi) _ (yaa hj))
inductive Vl(V:wa):List Val->Ce->Prop where
 |nil:Vl V [] .nils
 |sl (vals:List Val) (id v:Nat) (junk:List (List Ce)) (hg:V.get id=some (v,vals.map encV++junk)) (hj:Jk 3 junk):Vl V vals (vec id v (vals.map encV) junk)
variable {x:Ce}
theorem Vl.frame{V':wa}(h:Vl V vals x)(hf:∀a,idOf x=some a->V'.get a=V.get a):Vl V' vals x:=by
 cases h with
 |nil=>exact .nil
 |sl vals id v junk hg hj=>exact .sl _ id v junk (by rw[hf id rfl];exact hg) hj
theorem Vl.frz{V:wa}{vals:List Val}{x:Ce}(h:Vl V vals x):FrzV V 0 (.c x) (.c (.fz (vals.map encV))):=by
 cases h with
 |nil=>exact .c .nil
 |sl vals id v junk hg hj=>exact jnv hg λe he x hx=>((jcq e he).2 x hx).old _
abbrev PRow:=RowD×Ce
def encP(p:PRow):List Ce:=[.int .i64 p.1.id,p.2]
inductive Tb(V:wa)(ok:Option Int->Nat->Prop):List RowD->Ce->Prop where
 |sl (rows:List RowD) (ps:List PRow) (id v:Nat) (junk:List (List Ce)) (hr:ps.map (·.1)=rows) (hg:V.get id=some (v,ps.map encP++junk)) (hj:Jk 2 junk) (h0:ok none id)
  (hp:∀p∈ps,Vl V p.1.vals p.2/\∀a,idOf p.2=some a->ok (some p.1.id) a):Tb V ok rows (vec id v (ps.map encP) junk)
structure ChL where
 c:Nat
 vc:Nat
 d:Nat
 vd:Nat
 junk:List (List Ce)
def cells(xs:List Ce):List (List Ce):=xs.map λx=>[x]
def Own(L:ChL)(n next:Nat)(lab:Nat->Nat×Option Int)(i:Nat)(w:Option Int)(a:Nat):Prop:=lab a=(i,w)/\n<=a/\a<next/\a≠L.c/\a≠L.d
structure ww(L:ChL)(n:Nat)(s:List zd)(xs:List Ce)(db:List Data)(V:wa):Prop where
 c:V.get L.c=some (L.vc,[[.fz (s.map ja),.sl L.d L.vd 0 db.length (db.length+L.junk.length)]])
 d:V.get L.d=some (L.vd,cells xs++L.junk)
 jk:Jk 1 L.junk
 len:xs.length=db.length
 tb:∃lab,∀i (h:i<xs.length) (h2:i<db.length),Tb V (Own L n V.next lab i) db[i].rows xs[i]
 nc:n<=L.c
 nd:n<=L.d
 cd:L.c≠L.d
 lc:L.c<V.next
 ld:L.d<V.next
structure Kept(n:Nat)(V V':wa):Prop where
 next:V.next<=V'.next
 get:∀a,a<n->V'.get a=V.get a
 full:∀a,a<V'.next->(a<V.next->(V.get a).isSome=true)->(V'.get a).isSome=true
variable {n:Nat}
theorem Kept.refl:Kept n V V:=⟨yai _,λ_ _=>rfl,λa ha h=>h ha⟩
theorem Kept.trans{V' V'':wa}(h:Kept n V V')(k:Kept n V' V''):Kept n V V'':=⟨yaf h.next k.next,λa ha=>(k.get a ha).trans (h.get a ha),λa ha hs=>k.full a ha λh1=>h.full a h1 hs⟩
theorem Kept.put{y:Nat×List (List Ce)}(h:n<=id):Kept n V (V.put id y):=⟨yai _,λa ha=>if_neg O,λa ha hs=>by
 show(if a=id then _ else _:Option _).isSome=true;split
 ·rfl
 ·exact hs ha⟩
theorem Kept.ofE(h:n<=V.next)(l:List (Nat×List (List Ce))):Kept n V (E V l):=⟨by rw[z4];exact ybl _ _,λa ha=>E_lt (yaw ha h),λa ha hs=>by
 by_cases h1:a<V.next
 ·rw[E_lt h1];exact hs h1
 ·rw[E_ge h1,yag (by rw[z4]at ha;omega)]
  rfl⟩
variable {ok:Option Int->Nat->Prop}{rows:List RowD}
theorem Tb.frame{V':wa}{ok':Option Int->Nat->Prop}(h:Tb V ok rows x)(hok:∀w a,ok w a->ok' w a)(hf:∀w a,ok w a->V'.get a=V.get a):Tb V' ok' rows x:=by
 cases h with
 |sl ps id v junk hr hg hj h0 hp=>exact .sl _ ps id v junk hr (by rw[hf _ id h0];exact hg) hj (hok _ _ h0) λp hm=>⟨(hp p hm).1.frame λa ha=>hf _ a ((hp p hm).2 a ha),λa ha=>hok _ _ ((hp p hm).2 a ha)⟩
theorem Tb.frz{V:wa}{ok:Option Int->Nat->Prop}{rows:List RowD}{x:Ce}(h:Tb V ok rows x):FrzV V 0 (.c x) (.c (.fz (rows.map jc))):=by
 cases h with
 |sl ps id v junk hr hg hj h0 hp=>
  subst hr;refine .c (.sl _ _ _ _ _ (ps.map encP++junk) _ (yad _) hg gx gx (λi hi=>?_) (λi j hi hj=>?_))
  ·simp only[Nat.zero_add];rw[yapq hi];simp[jc,encP]
  ·have hi2:i<ps.length:=by simpa using hi
   have e:(ps.map encP++junk)[0+i]'gq=encP ps[i]:=by
    simp only[Nat.zero_add];rw[yapq hi];simp
   have e2:((ps.map (·.1)).map jc)[i]'(by simp;exact hi2)=jc ps[i].1:=gx;have hj2:j<2:=by
    rw[e2]at hj;exact hj
   simp only[e,e2];have hj3:j=0\/j=1:=O;rcases hj3 with rfl|rfl
   ·exact .same _ (.int _ _)
   ·have h1:=(hp _ (yaa hi2)).1.frz
    cases h1 with
    |c h1=>exact h1
theorem Tb.len(h:Tb V ok rows x){fr:Fr}{o:Opd}(hx:o.ev fr=some (.c x)):aop (.len false o) fr V=some (.c (.int .i64 (rows.length:Int)),V):=by
 cases h with
 |sl ps id v junk hr hg hj h0 hp=>subst hr;simp[aop,hx,vec]
section
variable {L:ChL}{n:Nat}{s:List zd}{xs:List Ce}{db:List Data}{V:wa}
variable {i:Nat}
theorem Own.grow{m m':Nat}{lab:Nat->Nat×Option Int}{w:Option Int}{a:Nat}(h:Own L n m lab i w a)(hm:m<=m'):Own L n m' lab i w a:=⟨h.1,h.2.1,yaw h.2.2.1 hm,h.2.2.2⟩
theorem ww.mono(h:ww L n s xs db V){V':wa}(h1:V.next<=V'.next)(hf:∀a,a<V.next->V'.get a=V.get a):ww L n s xs db V' where
 c:=by rw[hf _ h.lc];exact h.c
 d:=by rw[hf _ h.ld];exact h.d
 jk:=h.jk
 len:=h.len
 tb:=let⟨lab,hl⟩:=h.tb;⟨lab,λi h3 h2=>(hl i h3 h2).frame (λw a ha=>ha.grow h1) λw a ha=>hf a ha.2.2.1⟩
 nc:=h.nc
 nd:=h.nd
 cd:=h.cd
 lc:=yaw h.lc h1
 ld:=yaw h.ld h1
theorem ww.le(h:ww L n s xs db V):n<=V.next:=yaf h.nc (Nat.le_of_lt h.lc)
theorem ww.grow(h:ww L n s xs db V)(l:List (Nat×List (List Ce))):ww L n s xs db (E V l):=h.mono (by rw[z4];exact ybl _ _) λa ha=>E_lt ha
theorem Kept.grow(h:ww L n s xs db V)(l:List (Nat×List (List Ce))):Kept n V (E V l):=.ofE h.le l
variable {junk:List (List Ce)}
theorem za0(h:i<xs.length):(cells xs++junk)[0+i]?=some [xs[i]]:=by
 rw[Nat.zero_add,List.getElem?_append_left (by simpa [cells]using h)];simp[cells,h]
theorem wjg(h:i<xs.length):(cells xs++junk).set (0+i) [x]=cells (xs.set i x)++junk:=by
 rw[Nat.zero_add,List.set_append_left _ _ (by simpa [cells]using h),cells,cells,List.map_set]
theorem ww.frzR(h:ww L n s xs db V){k:Nat}(hk:k<db.length)(hk2:k<xs.length):FrzV V 0 (.c xs[k]) (.c (.fz (db[k].rows.map jc))):=let⟨_,hl⟩:=h.tb;(hl k hk2 hk).frz
theorem ww.frz(h:ww L n s xs db V):FrzV V 0 (.c (.sl L.d L.vd 0 db.length (db.length+L.junk.length))) (.c (.fz (db.map jb))):=by
 refine .c ?_;refine .sl _ _ _ _ _ (cells xs++L.junk) _ (Nat.zero_le _) h.d (by simp[cells,h.len]) gx (λi hi=>?_) (λi j hi hj=>?_)
 ·have hi3:i<xs.length:=by rw[h.len];exact hi
  have e:(cells xs++L.junk)[0+i]'(by simp[cells];omega)=[xs[i]]:=by
   have:=za0 (junk:=L.junk) hi3;exact(List.getElem?_eq_some_iff.1 this).2
  rw[e];simp[jb]
 ·have hi3:i<xs.length:=by rw[h.len];exact hi
  have e:(cells xs++L.junk)[0+i]'(by simp[cells];omega)=[xs[i]]:=by
   have:=za0 (junk:=L.junk) hi3;exact(List.getElem?_eq_some_iff.1 this).2
  have hj0:j=0:=by
   simp[jb]at hj;exact hj
  subst hj0;have hz:=h.frzR hi hi3
  cases hz with
  |c hz=>
   have e1:((db.map jb)[i]'(by simpa using hi))[0]'hj=.fz (db[i].rows.map jc):=by simp[jb]
   simp only[e1,e];exact hz
theorem ww.upd(h:ww L n s xs db V){lab:Nat->Nat×Option Int}(hl:∀i (h:i<xs.length) (h2:i<db.length),Tb V (Own L n V.next lab i) db[i].rows xs[i]){i:Nat}(hi:i<xs.length){V2:wa}{x:Ce}{rows:List RowD}{new:Nat->Option Int}(h1:V.next<=V2.next)
 (hf:∀a,a<V.next->a≠L.d->(¬∃w,Own L n V.next lab i w a)->V2.get a=V.get a) (hd:V2.get L.d=some (L.vd,cells (xs.set i x)++L.junk)) (ht:Tb V2 (λw a=>Own L n V.next lab i w a\/(V.next<=a/\a<V2.next/\new a=w)) rows x):
 ww L n s (xs.set i x) (db.set i ⟨rows⟩) V2:=by
 refine⟨?_,hd,h.jk, ?_,⟨λa=>if a<V.next then lab a else(i,new a),λk hk hk2=>?_⟩,h.nc,h.nd,h.cd,yaw h.lc h1,yaw h.ld h1⟩
 ·rw[hf _ h.lc h.cd λ⟨w,hw⟩=>hw.2.2.2.1 rfl,yarq];exact h.c
 ·rw[yarq,yarq];exact h.len
 ·rw[yarq]at hk hk2;simp only[List.getElem_set];by_cases e:i=k
  ·subst e;simp only[if_true];refine ht.frame (λw a ha=>?_) λ_ _ _=>rfl;rcases ha with ha|⟨h2,h3,h4⟩
   ·refine⟨?_,ha.2.1,yaw ha.2.2.1 h1,ha.2.2.2⟩;show(if a<V.next then lab a else(i,new a))=(i,w);rw[if_pos ha.2.2.1];exact ha.1
   ·have:=h.lc;have:=h.ld;have:=h.nc;refine⟨?_,O,h3,O,O⟩;show(if a<V.next then lab a else(i,new a))=(i,w);rw[if_neg O,h4]
  ·simp only[if_neg e];refine(hl k hk hk2).frame (λw a ha=>?_) λw a ha=>?_
   ·refine⟨?_,ha.2.1,yaw ha.2.2.1 h1,ha.2.2.2⟩;show(if a<V.next then lab a else(i,new a))=(k,w);rw[if_pos ha.2.2.1];exact ha.1
   ·refine hf a ha.2.2.1 ha.2.2.2.2 λ⟨w2,h2⟩=>e ?_;have:=h2.1.symm.trans ha.1;exact congrArg Prod.fst this
end
structure At(L:ChL)(n k:Nat)(lab:Nat->Nat×Option Int)(V:wa)(rows:List RowD)(x:Ce)(ps:List PRow)(id v:Nat)(junk:List (List Ce)):Prop where
 x:x=vec id v (ps.map encP) junk
 get:V.get id=some (v,ps.map encP++junk)
 jk:Jk 2 junk
 rows:ps.map (·.1)=rows
 own:Own L n V.next lab k none id
 vl:∀p∈ps,Vl V p.1.vals p.2/\∀a,idOf p.2=some a->Own L n V.next lab k (some p.1.id) a
variable {L:ChL}{s:List zd}{xs:List Ce}{db:List Data}
theorem ww.any(h:ww L n s xs db V){k:Nat}(hk:k<db.length)(hk2:k<xs.length):
 ∃lab ps id v junk,At L n k lab V db[k].rows xs[k] ps id v junk/\∀i (h:i<xs.length) (h2:i<db.length),Tb V (Own L n V.next lab i) db[i].rows xs[i]:=by
 obtain⟨lab,hl⟩:=h.tb;have ht:=hl k hk2 hk;generalize hx:xs[k]=x at ht⊢;generalize db[k].rows=rows at ht⊢
 cases ht with
 |sl ps id v junk hr hg hj h00 hp=>exact⟨lab,ps,id,v,junk,⟨rfl,hg,hj,hr,h00,hp⟩,hl⟩
theorem ww.some(h:ww L n s xs db V){k:Nat}(hk:k<db.length)(hk2:k<xs.length)(_:0<db[k].rows.length):
 ∃lab ps id v junk,At L n k lab V db[k].rows xs[k] ps id v junk/\∀i (h:i<xs.length) (h2:i<db.length),Tb V (Own L n V.next lab i) db[i].rows xs[i]:=h.any hk hk2
theorem jea(h:ww L n s xs db V){k:Nat}(hk:k<db.length)(hk2:k<xs.length){fr:Fr}{o:Opd}(hx:o.ev fr=Option.some (.c xs[k])):aop (.len false o) fr V=Option.some (.c (.int .i64 (db[k].rows.length:Int)),V):=
 let⟨_,hl⟩:=h.tb
 (hl k hk2 hk).len hx
section
variable {L:ChL}{n k:Nat}{lab:Nat->Nat×Option Int}{V:wa}{rows:List RowD}{x:Ce}{ps:List PRow}{id v:Nat}{junk:List (List Ce)}
theorem At.len(h:At L n k lab V rows x ps id v junk):ps.length=rows.length:=by
 rw[<-h.rows,yae]
theorem At.row(h:At L n k lab V rows x ps id v junk){j:Nat}(hj:j<rows.length):(ps[j]'(by rw[h.len];exact hj)).1=rows[j]:=by
 have:=h.rows;subst this;simp
theorem At.frz(h:At L n k lab V rows x ps id v junk){j:Nat}(hj:j<rows.length):FrzV V 0 (.c (ps[j]'(by rw[h.len];exact hj)).2) (.c (.fz (rows[j].vals.map encV))):=by
 have h1:=(h.vl _ (yaa (by rw[h.len];exact hj))).1.frz;rw[h.row hj]at h1;exact h1
theorem At.at(h:At L n k lab V rows x ps id v junk){j:Nat}(hj:j<rows.length):(ps.map encP++junk)[0+j]?=Option.some (encP (ps[j]'(by rw[h.len];exact hj))):=by
 have hj2:j<ps.length:=by rw[h.len];exact hj
 rw[Nat.zero_add,List.getElem?_append_left (by simpa using hj2)];simp[hj2]
end
theorem zai(d:Data)(n:Int)(hx:d.rows.length<=34359738368):Pure Tryz.prog 70 [.agg (jb d),.c (.int .i64 n)] (.c (.int .i64 (idxA (λr:RowD=>r.id==n) d.rows 0))):=by
 refine yaq [2] wjt λG=>?_;repeat' first|refine X ?_|exact yaF|refine Y ?_ ?_<;>intro _
 refine Go.keep [1,2,5] (Go.loops (I:=λm fr V=>∃i:Nat,∃k:Int,m=d.rows.length-i/\i<=d.rows.length/\k=i/\idxA (λr:RowD=>r.id==n) d.rows 0=idxA (λr:RowD=>r.id==n) (d.rows.drop i) k/\
  fr=[(1,.c (.int .i64 n)),(2,.c (.fp (jb d))),(5,.c (.int .i64 k))]/\V=E G []) ?_ _ _ _ ⟨0,_,rfl,yad _,rfl,rfl,rfl,rfl⟩)
 rintro m fr V ⟨i,k,rfl,hi,hn,hsl,rfl,rfl⟩ hrec;by_cases hlt:i<d.rows.length
 ·repeat' first|refine X ?_|((first|apply yG|apply yH|apply yI);exact rfl;(first|exact yax jc hn hlt))|exact yaF|refine Y ?_ ?_<;>intro _
  ·rename_i h;refine .ret rfl (.int ?_);rw[hsl,List.drop_eq_getElem_cons hlt,idxA,if_pos (by rw[h];simp)]
  ·rename_i h;refine Go.keep [1,2,5] (hrec _ _ _ O ⟨i+1,_,rfl,hlt,wb hn O, ?_,rfl,rfl⟩);rw[hsl,List.drop_eq_getElem_cons hlt,idxA,if_neg (by simpa using h),jg O O]
 ·repeat' first|refine X ?_|exact yaF|refine Y ?_ ?_<;>intro _
  refine .ret rfl (.int ?_);rw[hsl,yac O]
  rfl
theorem jeu(t:zd)(vals:List Val)(hl:vals.length=t.cols.length)(hT:wk6 t)(hv:jt vals 16=true):Pure Tryz.prog 321 [.agg (ja t),.c (.fz (vals.map encV))] (.c (.int .i64 (zcd t vals))):=by
 refine yaq [2] jh7 λG=>?_;have c1:=jk7 t vals hl hT.cols8;have c2:=jka t vals hT.chk3 (λc hc=>by rw[hl];exact hT.chk c hc) hv;rw[zcd]
 cases h1:za7 t 0 vals
 ·rw[h1]at c1
  cases h2:t.checks.any (zbg vals)
  ·rw[h2]at c2;repeat' first|refine X ?_|refine yaC (c1) ?_|refine yaC (c2) ?_|exact yaF|refine Y ?_ ?_<;>intro _
   exact .ret rfl (.int rfl)
  ·rw[h2]at c2;repeat' first|refine X ?_|refine yaC (c1) ?_|refine yaC (c2) ?_|exact yaF|refine Y ?_ ?_<;>intro _
   exact .ret rfl (.int rfl)
 ·rw[h1]at c1;repeat' first|refine X ?_|refine yaC (c1) ?_|exact yaF|refine Y ?_ ?_<;>intro _
  exact .ret rfl (.int rfl)
theorem zl3{r x:RowD}{k:List Int}(h:r.id≠x.id):wdk [r] x k=zgp x.vals r k:=by
 rw[wdk,zgp,zad,List.filter_cons]
 cases hb:hasB k (keyF k x.vals) r.vals
 ·simp
 ·simp[h]
theorem zjh(t:zd)(d:Data)(x:RowD)(hd:d.rows.length<=60)(hK:wnt t d x):Pure Tryz.prog 363 [.agg (ja t),.agg (jb d),.agg (jc x)] (.c (.fz ((j8 d.rows (zt t) x.id x.vals).map encI))):=by
 refine yaq [3,4,5,33,46] jgb λG=>?_;repeat' first|refine X ?_|exact yaF|refine Y ?_ ?_<;>intro _
 refine Go.keep [3,4,5,7,8] (Go.loops (I:=λm fr V=>∃(i:Nat) (k:Int) (v:Nat) (junk:List (List Ce)),m=d.rows.length-i/\i<=d.rows.length/\k=i/\Jk 1 junk/\
  fr=[(3,.c (.fp (ja t))),(4,.c (.fp (jb d))),(5,.c (.fp (jc x))),(7,.c (vec (G.next+0) v ((j8 (d.rows.take i) (zt t) x.id x.vals).map encI) junk)),(8,.c (.int .i64 k))]/\V=E G [(v,(j8 (d.rows.take i) (zt t) x.id x.vals).map encI++junk)]) ?_ _ _ _ ⟨0,_,0,[],rfl,yad _,rfl,Jk.nil,rfl,rfl⟩)
 rintro m fr V ⟨i,k,v,junk,rfl,hi,hk,hj,rfl,rfl⟩ hrec;by_cases hlt:i<d.rows.length
 ·have hst:=ze2 (keys:=zt t) (id:=x.id) (vals:=x.vals) hlt;have hlen:(j8 (d.rows.take i) (zt t) x.id x.vals).length<=60:=yaf jcl (by rw[yasq];omega);generalize j8 (d.rows.take i) (zt t) x.id x.vals=ids at hst hlen⊢;have hbd:((ids.map encI).length+1)*8<=140737488355328:=by rw[yae];omega
  have hz1:∀e∈ids.map encI,e.length=1:=λe he=>(jas e he).1;have e1:ids.map encI++[encI d.rows[i].id]=(ids++[d.rows[i].id]).map encI:=gx;have c1:=wka t ⟨[d.rows[i]]⟩ x gx hK.uniq hK.len hK.own (λk hk r hr=>by
   have hr2:r=d.rows[i]:=by simpa using hr
   rw[hr2];exact hK.far k hk _ (yaa hlt))
  by_cases h0:d.rows[i].id=x.id
  ·rw[show(!(d.rows[i].id==x.id)&&(zt t).any (zgp x.vals d.rows[i]))=false by simp[h0],if_neg Bool.false_ne_true,List.append_nil]at hst;repeat' first|refine X ?_|((first|apply yG|apply yH|apply yI);exact rfl;(first|exact yax jc hk hlt))|exact yaF|refine Y ?_ ?_<;>intro _
   exact Go.keep [3,4,5,7,8] (hrec _ _ _ O ⟨i+1,_,v,junk,rfl,hlt,wb hk O,hj,by rw[hst]<;>rfl,by rw[hst]<;>rfl⟩)
  ·have hany:(zt t).any (wdk (Data.rows ⟨[d.rows[i]]⟩) x)=(zt t).any (zgp x.vals d.rows[i]):=by
    congr 1
    funext k;exact zl3 h0
   rw[hany]at c1;rw[show(d.rows[i].id==x.id)=false from beq_eq_false_iff_ne.2 h0,Bool.not_false,yaz]at hst;generalize (zt t).any (zgp x.vals d.rows[i])=B at c1 hst
   cases B
   ·rw[if_neg yah,ybg]at hst;repeat' first|refine X ?_|((first|apply yG|apply yH|apply yI);exact rfl;(first|exact yax jc hk hlt))|refine yaC (c1) ?_|exact yaF|refine Y ?_ ?_<;>intro _
    exact Go.keep [3,4,5,7,8] (hrec _ _ _ O ⟨i+1,_,v,junk,rfl,hlt,wb hk O,hj,by rw[hst]<;>rfl,by rw[hst]<;>rfl⟩)
   ·rw[if_pos rfl]at hst;repeat' first|refine X ?_|((first|apply yG|apply yH|apply yI);exact rfl;(first|exact yax jc hk hlt))|(apply Go.app1;exact rfl;exact rfl;exact rfl;exact rfl;exact rfl;exact hz1;exact hj;exact rfl;exact hbd;intro v' junk' hj')|refine yaC (c1) ?_|exact yaF|refine Y ?_ ?_<;>intro _
    refine Go.keep [3,4,5,7,8] (hrec _ _ _ O ⟨i+1,_,v',junk',rfl,hlt,wb hk O,hj', ?_, ?_⟩)
    ·rw[hst,<-e1];rfl
    ·rw[hst,<-e1];rfl
 ·rw[yan O];repeat' first|refine X ?_|exact yaF|refine Y ?_ ?_<;>intro _
  exact .ret rfl ⟨_,rfl,jht (n:=0) (k:=0) rfl znu (yad _) (yai _)⟩
theorem jl3(d:Data)(n:Int)(hd:d.rows.length<=60):Pure Tryz.prog 328 [.agg (jb d),.c (.int .i64 n)] (.agg (jb ⟨w8 d.rows n⟩)):=by
 refine yaq [2,29] zh8 λG=>?_;repeat' first|refine X ?_|exact yaF|refine Y ?_ ?_<;>intro _
 refine Go.keep [1,2,4,5,6] (Go.loops (I:=λm fr V=>∃(i:Nat) (k:Int) (v:Nat) (junk:List (List Ce)),m=d.rows.length-i/\i<=d.rows.length/\k=i/\Jk 2 junk/\
  fr=[(1,.c (.int .i64 n)),(2,.c (.fp (jb d))),(4,.c (.ptr (G.next+0) 0 0 0)),(5,.c (vec (G.next+1) v ((w8 (d.rows.take i) n).map jc) junk)),(6,.c (.int .i64 k))]/\V=E G [(0,[[.nils]]),(v,(w8 (d.rows.take i) n).map jc++junk)]) ?_ _ _ _ ⟨0,_,0,[],rfl,yad _,rfl,Jk.nil,rfl,rfl⟩)
 rintro m fr V ⟨i,k,v,junk,rfl,hi,hk,hj,rfl,rfl⟩ hrec;have hlen:(w8 (d.rows.take i) n).length<=60:=yaf (ybt _ _) (by rw[yasq];omega);by_cases hlt:i<d.rows.length
 ·have hst:w8 (d.rows.take (i+1)) n=w8 (d.rows.take i) n++if(!(d.rows[i].id==n))=true then[d.rows[i]]else[]:=by
   rw[w8,yaj hlt,List.filter_append,List.filter_cons,w8];split<;>rfl
  generalize w8 (d.rows.take i) n=ys at hst hlen⊢;have hbd:((ys.map jc).length+1)*32<=140737488355328:=by rw[yae];omega
  have e1:ys.map jc++[jc d.rows[i]]=(ys++[d.rows[i]]).map jc:=gx;by_cases h0:d.rows[i].id=n
  ·rw[show(d.rows[i].id==n)=true from beq_iff_eq.2 h0,Bool.not_true,if_neg yah,ybg]at hst;repeat' first|refine X ?_|((first|apply yG|apply yH|apply yI);exact rfl;(first|exact yax jc hk hlt))|exact yaF|refine Y ?_ ?_<;>intro _
   all_goals first
    |contradiction
    |skip
   exact Go.keep [1,2,4,5,6] (hrec _ _ _ O ⟨i+1,_,v,junk,rfl,hlt,wb hk O,hj,by rw[hst]<;>rfl,by rw[hst]<;>rfl⟩)
  ·rw[show(d.rows[i].id==n)=false from beq_eq_false_iff_ne.2 h0,Bool.not_false,if_pos rfl]at hst;repeat' first|refine X ?_|((first|apply yG|apply yH|apply yI);exact rfl;(first|exact yax jc hk hlt))|(apply Go.app1;exact rfl;exact rfl;exact rfl;exact rfl;exact rfl;exact zbq;exact hj;exact rfl;exact hbd;intro v' junk' hj')|exact yaF|refine Y ?_ ?_<;>intro _
   all_goals first
    |contradiction
    |skip
   refine Go.keep [1,2,4,5,6] (hrec _ _ _ O ⟨i+1,_,v',junk',rfl,hlt,wb hk O,hj', ?_, ?_⟩)
   ·rw[hst,<-e1];rfl
   ·rw[hst,<-e1];rfl
 ·rw[yan O]at hlen⊢;generalize w8 d.rows n=ys at hlen⊢;repeat' first|refine X ?_|exact yaF|refine Y ?_ ?_<;>intro _
  refine .ret (ja2 rfl rfl rfl (yad _) rfl) ⟨_,rfl,.agg rfl λj hj0=>?_⟩;have hj1:j=0:=by simp at hj0;omega
  subst hj1
  have hz:FrzV (E G [(0,[[vec (G.next+1) v (ys.map jc) junk]]),(v,ys.map jc++junk)]) G.next (.c (vec (G.next+1) v (ys.map jc) junk)) (.c (.fz (ys.map jc))):=
   jbu (k:=1) rfl (jgp _) (ybl _ _)
  cases hz with
  |c h=>exact h
end Go.Proofs.YtedaadaaibofaaaGreat.Am
