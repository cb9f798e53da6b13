/- Joined texts: D5, A32, A33, A34, A35, A36, A37, C3, A38, A39, X10, Y10, Y16, T4. -/
import Derived.Test.YtedaadaaibofaaaGreatProg
import Derived.KernelRfl
import Derived.Test.YtedaadaaibofaaaGreatZ1
import Derived.Test.YtedaadaaibofaaaGreatZ2
import Derived.Test.YtedaadaaibofaaaGreatZ3
import Derived.Test.YtedaadaaibofaaaGreatZ4
import Derived.Test.YtedaadaaibofaaaGreatZ5
set_option maxHeartbeats 1000000
set_option linter.unusedVariables false
set_option linter.unusedSimpArgs false
namespace Go.Proofs.YtedaadaaibofaaaGreat.Am
theorem wdt:∀{l pre:List wc},z1 pre l=true->(∀t∈l,∀u∈pre,u.name≠t.name)/\∀i j (hi:i<l.length) (hj:j<l.length),l[i].name=l[j].name->i=j
 |[],_,_=>⟨λt ht=>by simp at ht,λi j hi=>by simp at hi⟩
 |t::r,pre,h=>by
  simp only[z1,Bool.and_eq_true,Bool.not_eq_true',List.any_eq_false,beq_iff_eq]at h;obtain⟨⟨_,h1⟩,h2⟩:=h;obtain⟨h3,h4⟩:=wdt h2;refine⟨λu hu w hw=>?_,λi j hi hj e=>?_⟩
  ·rcases List.mem_cons.1 hu with rfl|hu
   ·exact h1 w hw
   ·exact h3 u hu w (by simp[hw])
  ·cases i with
   |zero=>
    cases j with
    |zero=>rfl
    |succ j=>exact absurd e (h3 _ (List.getElem_mem (by simpa using hj)) t gx)
   |succ i=>
    cases j with
    |zero=>exact absurd e.symm (h3 _ (List.getElem_mem (by simpa using hi)) t gx)
    |succ j=>rw[h4 i j (by simpa using hi) (by simpa using hj) e]
variable {s:List wc}
theorem wkm(h:wl s=true){m:Nat}(hm:m<s.length){nm:List UInt8}(e:nm=s[m].name):whf s nm=some s[m]:=by
 subst e;rcases zbn (p:=λu:wc=>u.name==s[m].name) (l:=s) (i:=0) (yaz _)with hi|⟨n,hn,hi,hp⟩
 ·exfalso;have:=jbl (p:=λu:wc=>u.name==s[m].name) (l:=s);rw[hi]at this;have h2:(s.any λu=>u.name==s[m].name)=true:=List.any_eq_true.2 ⟨s[m],yaa hm,gx⟩;rw[h2]at this;exact absurd this gb
 ·rw[za0 (by rw[hi];omega) hn];have:=(wdt (jcb.1 h).2.1).2 n m hn hm (eq_of_beq hp);subst this
  rfl
variable {n:Nat}
theorem zc1{l:List Val}(h:∀v∈l,zr v=true):∀v∈half n l,zr v=true:=by
 intro v hv;rw[half]at hv;split at hv
 ·rw[ybo hv];rfl
 ·exact h v hv
theorem wd6(s:List wc)(l:List je)(n:Int)(m:Nat)(ev:Int)(old now:List Val)(hn:n=(m:Int))(hm:m<s.length)(hc:s[m].cols.length<=8)(hx:l.length<=1048576)(ho:old=[]\/old.length=s[m].cols.length)(hw:now=[]\/now.length=s[m].cols.length)
 (ho2:∀v∈old,zr v=true) (hw2:∀v∈now,zr v=true) (hT:∀x∈l,x.table=s[m].name->jbn x.when_ (2*s[m].cols.length)=true) (G:jb):
 Ok Tryz.prog 260 [.c (.fz (s.map ja)),.c (.fz (l.map zd)),.c (.int .i64 n),.c (.int .i64 ev),.c (.fz (old.map encV)),.c (.fz (now.map encV))] G (NewV G (.c (.fz ((jac s[m] l ev old now).map encI)))):=by
 refine Ok.run mixed zdz gz λhS hA=>?_;clear hS hA;have cs:=jhn s[m] old now hc ho hw;have hbl:(zat s[m].cols.length old now).length=2*s[m].cols.length:=by rw[zat,yaqq,ja9 ho,ja9 hw];omega
 have hba:zq (zat s[m].cols.length old now) 16=true:=by
  simp only[zq,Bool.and_eq_true,decide_eq_true_eq,List.all_eq_true];refine⟨O,λv hv=>?_⟩;rcases List.mem_append.1 hv with hv|hv
  ·exact zc1 ho2 v hv
  ·exact zc1 hw2 v hv
 rw[jac];generalize zat s[m].cols.length old now=vals at cs hbl hba⊢;repeat' first|refine X ?_|exact yaF|refine yaS ?_ ?_<;>intro _
 refine Go.keep [0,1,2,3,4,5,13,14] (Go.loops (I:=λq fr V=>∃(i:Nat) (k:Int) (ids:List Int) (v:Nat) (junk:List (List Ce)),q=l.length-i/\i<=l.length/\k=i/\Jk 1 junk/\(ids.length<=i/\za2 (wao s[m] ev vals) l 0 []=za2 (wao s[m] ev vals) (l.drop i) k ids)/\
  fr=[(0,.c (.fz (s.map ja))),(1,.c (.fz (l.map zd))),(2,.c (.int .i64 n)),(3,.c (.int .i64 ev)),(4,.c (.fz (old.map encV))),(5,.c (.fz (now.map encV))),(13,.c (vec (G.next+0) v (ids.map encI) junk)),(14,.c (.int .i64 k))]/\V=E G [(v,ids.map encI++junk)]) ?_ _ _ _ ⟨0,_,[],0,[],rfl,yac _,rfl,Jk.nil,⟨yac _,rfl⟩,rfl,rfl⟩)
 rintro q fr V ⟨i,k,ids,v,junk,rfl,hi,hk,hj,⟨hil,hs⟩,rfl,rfl⟩ hrec;by_cases hlt:i<l.length
 ·have hTi:=hT _ (yaa hlt);rw[yab hlt,za2]at hs;have hkk:IntKind.i64.wrap (k+1)=k+1:=zk O O;have hbd:((ids.map encI).length+1)*8<=140737488355328:=by rw[yae];omega
  have hz1:∀e∈ids.map encI,e.length=1:=λe he=>(wak e he).1;have e1:ids.map encI++[encI k]=(ids++[k]).map encI:=gx;have fin0:wao s[m] ev vals l[i]=false->∀fr V,fr=[(0,AV.c (.fz (s.map ja))),(1,.c (.fz (l.map zd))),(2,.c (.int .i64 n)),(3,.c (.int .i64 ev)),(4,.c (.fz (old.map encV))),(5,.c (.fz (now.map encV))),(13,.c (vec (G.next+0) v (ids.map encI) junk)),(14,.c (.int .i64 (IntKind.i64.wrap (k+1))))]->V=E G [(v,ids.map encI++junk)]->_:=λhf fr V a b=>by
   rw[hf,if_neg yah]at hs;exact hrec (l.length-(i+1)) fr V O ⟨i+1,_,ids,v,junk,rfl,hlt,wb hk O,hj,⟨O,by rw[hkk];exact hs⟩,a,b⟩
  have fin1:wao s[m] ev vals l[i]=true->∀(v':Nat) (junk':List (List Ce)),Jk 1 junk'->∀fr V,fr=[(0,AV.c (.fz (s.map ja))),(1,.c (.fz (l.map zd))),(2,.c (.int .i64 n)),(3,.c (.int .i64 ev)),(4,.c (.fz (old.map encV))),(5,.c (.fz (now.map encV))),(13,.c (vec (G.next+0) v' ((ids++[k]).map encI) junk')),(14,.c (.int .i64 (IntKind.i64.wrap (k+1))))]->V=E G [(v',(ids++[k]).map encI++junk')]->_:=λhf v' junk' hj' fr V a b=>by
   rw[hf,if_pos rfl]at hs;exact hrec (l.length-(i+1)) fr V O ⟨i+1,_,ids++[k],v',junk',rfl,hlt,wb hk O,hj',⟨by simp;omega,by rw[hkk];exact hs⟩,a,b⟩
  clear hrec hs;by_cases h1:l[i].table=s[m].name
  ·have hb1:(l[i].table==s[m].name)=true:=by rw[h1];exact beq_self_eq_true _
   by_cases h0:(l[i].when_.length:Int)=0
   ·repeat' first|refine X ?_|((first|apply yG|apply yH|apply yI);exact rfl;(first|exact yax zd hk hlt|exact yax ja hn hm))|(apply Go.app1;exact rfl;exact rfl;exact rfl;exact rfl;exact rfl;exact hz1;exact hj;exact rfl;exact hbd;intro v' junk' hj')|exact yaF|refine yaS ?_ ?_<;>intro _
    all_goals first
     |(refine Go.keep [0,1,2,3,4,5,13,14] (fin1 ?_ v' junk' hj' _ _ ?_ ?_)<;>first|(rw[<-e1];rfl)|(simp_all[wao];done))
     |(refine Go.keep [0,1,2,3,4,5,13,14] (fin0 ?_ _ _ rfl rfl);simp_all[wao];done)
     |(exfalso;simp_all;done)
   ·have hex:jao l[i].when_ vals.length=true:=by
     rw[hbl];have:=jh7 (hTi h1) O;exact this
    have c1:=jd2 l[i].when_ vals hba hex;have hTT:wb2 l[i].when_ vals=jcq l[i].when_ vals:=by rw[wb2,jc8,hba,hex];rfl
    repeat' first|refine X ?_|((first|apply yG|apply yH|apply yI);exact rfl;(first|exact yax zd hk hlt|exact yax ja hn hm))|(apply Go.app1;exact rfl;exact rfl;exact rfl;exact rfl;exact rfl;exact hz1;exact hj;exact rfl;exact hbd;intro v' junk' hj')|refine yaC (cs) ?_|refine yaC (c1) ?_|exact yaF|refine yaS ?_ ?_<;>intro _
    all_goals first
     |(refine Go.keep [0,1,2,3,4,5,13,14] (fin1 ?_ v' junk' hj' _ _ ?_ ?_)<;>first|(rw[<-e1];rfl)|(simp_all[wao];done))
     |(refine Go.keep [0,1,2,3,4,5,13,14] (fin0 ?_ _ _ rfl rfl);simp_all[wao];done)
     |(exfalso;simp_all;done)
  ·have hb1:(l[i].table==s[m].name)=false:=beq_eq_false_iff_ne.2 h1;repeat' first|refine X ?_|((first|apply yG|apply yH|apply yI);exact rfl;(first|exact yax zd hk hlt|exact yax ja hn hm))|exact yaF|refine yaS ?_ ?_<;>intro _
   all_goals first
    |(refine Go.keep [0,1,2,3,4,5,13,14] (fin0 ?_ _ _ rfl rfl);simp_all[wao];done)
    |(exfalso;simp_all;done)
 ·repeat' first|refine X ?_|exact yaF|refine yaS ?_ ?_<;>intro _
  refine .ret rfl ?_;rw[yad O,za2]at hs;rw[hs];exact wcg wak hj
variable {l:List je}
theorem wa7(h:wj s l=true):wl s=true/\l.length<=6/\∀x∈l,zbp s x=true:=by
 simp only[wj,Bool.and_eq_true,decide_eq_true_eq,Bool.not_eq_true',List.any_eq_false,Bool.not_eq_true,Bool.not_eq_false']at h;exact⟨h.1,O,λx hx=>by simpa using h.2.2 x hx⟩
def jgv(l:List je)(i:Int):je:=match l[i.toNat]? with|some x=>x|none=>⟨[],0,[],[],[]⟩
variable {i:Int}
theorem wgv(hi:i=(n:Int))(hn:n<l.length):jgv l i=l[n]:=by
 subst hi;rw[jgv,ybb,yag hn]
def wbp(row:List Val):List Term->List Val->Option (List Val)
 |[],acc=>some acc
 |t::r,acc=>if(jaz t.expr row).2=true then wbp row r (acc++[(jaz t.expr row).1])else none
def wjw(run:Nat->List Val->List Data->Res)(k:Nat)(vals:List Val)(q:Ins):Res:=if q.2.2=0 then run k vals q.1 else([],q.2.2)
def jid(run:Nat->List Val->List Data->Res)(s:List wc)(k:Nat)(vals:List Val)(db:List Data):Res:=if fitF (tabN s k) vals=true then wjw run k vals (insF (chgF s 12) s k vals false db)else([],8)
def zb6(run:Nat->List Val->List Data->Res)(s:List wc)(row:List Val)(x:je)(db:List Data):Res:=match wbp row x.terms []with
 |none=>([],8)
 |some vals=>jid run s (idxA (λu:wc=>u.name==x.into) s 0).toNat vals db
def jce(one:Int->List Data->Res):List Int->List Data->Res
 |[],db=>(db,0)
 |i::r,db=>if(one i db).2=0 then jce one r (one i db).1 else([],(one i db).2)
def ja3(s:List wc)(l:List je):Nat->Nat->Int->List Val->List Val->List Data->Res
 |0,k,ev,old,now,db=>if jac (tabN s k) l ev old now=[]then(db,0)else([],6)
 |d+1,k,ev,old,now,db=>jce (λi=>zb6 (λk vals=>ja3 s l d k 1 [] vals) s (zat (tabN s k).cols.length old now) (jgv l i)) (jac (tabN s k) l ev old now) db
theorem wfl{p:je->Bool}:∀{l:List je} {j:Int} {acc:List Int} {i:Int},i∈za2 p l j acc->i∈acc\/∃n,∃h:n<l.length,i=j+(n:Int)/\p l[n]=true
 |[],j,acc,i,h=>.inl h
 |x::l,j,acc,i,h=>by
  rw[za2]at h;rcases wfl h with h|⟨n,hn,h1,h2⟩
  ·split at h
   ·rename_i hp;rcases List.mem_append.1 h with h|h
    ·exact .inl h
    ·exact .inr ⟨0,gx,by rw[List.mem_singleton.1 h];simp,hp⟩
   ·exact .inl h
  ·exact .inr ⟨n+1,by simpa using hn,O,h2⟩
variable {t:wc}{ev:Int}{old now:List Val}
theorem zgw(h:i∈jac t l ev old now):∃n,∃hn:n<l.length,i=(n:Int)/\l[n].table=t.name:=by
 rw[jac]at h;rcases wfl h with h|⟨n,hn,h1,h2⟩
 ·cases h
 ·refine⟨n,hn,O, ?_⟩;rw[wao,yau,beq_iff_eq]at h2;exact h2.1
theorem zfm{p:je->Bool}:∀{l:List je} {j:Int} {acc:List Int},(za2 p l j acc).length<=acc.length+l.length
 |[],_,_=>ybc _ _
 |x::l,j,acc=>by
  rw[za2];refine yai zfm ?_;split<;>simp<;>omega
theorem whn:(jac t l ev old now).length<=l.length:=by
 have:=zfm (p:=wao t ev (zat t.cols.length old now)) (l:=l) (j:=0) (acc:=[]);rw[jac];simpa using this
structure TrG(s:List wc)(m:Nat)(hm:m<s.length)(x:je):Prop where
 into:∃k,∃_:k<s.length,idxA (λu:wc=>u.name==x.into) s 0=(k:Int)
 len:x.terms.length<=8
 terms:∀y∈x.terms,jao y.expr (2*s[m].cols.length)=true
 when_:jbn x.when_ (2*s[m].cols.length)=true
theorem trG(hT:wj s l=true){m:Nat}(hm:m<s.length){x:je}(hx:x∈l)(ht:x.table=s[m].name):TrG s m hm x:=by
 obtain⟨h1,_,h2⟩:=wa7 hT;have h3:=h2 x hx;rw[zbp,wkm h1 hm ht]at h3;rcases zc0 (λu:wc=>u.name==x.into) s 0 with⟨h4,_⟩|⟨k,hk,h4,_⟩
 ·rw[jbv h4]at h3
  cases h3
 ·have h5:idxA (λu:wc=>u.name==x.into) s 0=(k:Int):=by rw[h4];omega
  rw[za0 h5 hk]at h3;have hc:=(zax h1 _ (yaa hk)).2;simp only[wec,zf3,Bool.and_eq_true,decide_eq_true_eq,Bool.not_eq_true',List.any_eq_false]at h3;obtain⟨_,h6,h7,h8⟩:=h3;exact⟨⟨k,hk,h5⟩,O,λy hy=>by simpa using h8 y hy,h6⟩
structure RowO(t:wc)(v:List Val):Prop where
 len:v=[]\/v.length=t.cols.length
 oks:∀w∈v,zr w=true
theorem jc1:RowO t []:=⟨.inl rfl,λw hw=>by cases hw⟩
theorem wio{v:List Val}(h:fitF t v=true):RowO t v:=⟨.inr (j6 h).1,(j6 h).2⟩
theorem wid(hs:SchG s){k:Nat}(hk:k<s.length){vals:List Val}(hf:fitF s[k] vals=true){db:List Data}(h:DbG BI s db)(h0:(insF (chgF s 12) s k vals false db).2.2=0):DbG BI s (insF (chgF s 12) s k vals false db).1:=
 wjs hs hk ⟨(j6 hf).1,za9 hf (hs.tab _ (yaa hk)).cols8⟩ (jfj h hk) h0
structure RunG(s:List wc)(run:Nat->List Val->List Data->Res):Prop where
 keep:∀k (hk:k<s.length) vals,fitF s[k] vals=true->∀db,DbG BI s db->(run k vals db).2=0->DbG BI s (run k vals db).1
 cod:∀k vals db,0<=(run k vals db).2
theorem zd7(hs:SchG s){run:Nat->List Val->List Data->Res}(hr:RunG s run){row:List Val}{m:Nat}{hm:m<s.length}{x:je}(hx:TrG s m hm x){db:List Data}(h:DbG BI s db)(h0:(zb6 run s row x db).2=0):DbG BI s (zb6 run s row x db).1:=by
 obtain⟨k,hk,hi⟩:=hx.into;revert h0;rw[zb6]
 cases wbp row x.terms []with
 |none=>exactλh=>by cases h
 |some vals=>
  show(jid run s (idxA (λu:wc=>u.name==x.into) s 0).toNat vals db).2=0->DbG BI s (jid run s (idxA (λu:wc=>u.name==x.into) s 0).toNat vals db).1;rw[hi,ybb,jid,zn hk];by_cases hf:fitF s[k] vals=true
  ·rw[if_pos hf,wjw];by_cases h2:(insF (chgF s 12) s k vals false db).2.2=0
   ·rw[if_pos h2];exact hr.keep k hk vals hf _ (wid hs hk hf h h2)
   ·rw[if_neg h2];exactλh=>absurd h h2
  ·rw[if_neg hf];exactλh=>by cases h
theorem zjx{run:Nat->List Val->List Data->Res}(hr:RunG s run){row:List Val}{x:je}{db:List Data}:0<=(zb6 run s row x db).2:=by
 rw[zb6];split
 ·exact Int.le_of_lt gb
 ·rw[jid];split
  ·rw[wjw];split
   ·exact hr.cod _ _ _
   ·exact zeq
  ·exact Int.le_of_lt gb
theorem zf9{s:List wc}{one:Int->List Data->Res}:∀{l:List Int},(∀i∈l,∀db,DbG BI s db->(one i db).2=0->DbG BI s (one i db).1)->∀{db:List Data},DbG BI s db->(jce one l db).2=0->DbG BI s (jce one l db).1
 |[],_,db,h,_=>h
 |i::r,ho,db,h,h0=>by
  rw[jce]at h0⊢;by_cases h1:(one i db).2=0
  ·rw[if_pos h1]at h0⊢;exact zf9 (λj hj=>ho j (by simp[hj])) (ho i gx db h h1) h0
  ·rw[if_neg h1]at h0;exact absurd h0 h1
theorem zho{one:Int->List Data->Res}(h:∀i db,0<=(one i db).2):∀{l:List Int} {db:List Data},0<=(jce one l db).2
 |[],db=>yaz _
 |i::r,db=>by
  rw[jce];split
  ·exact zho h
  ·exact h i db
theorem zie(hs:SchG s){l:List je}(hT:wj s l=true){d:Nat}(hr:RunG s λk vals=>ja3 s l d k 1 [] vals){k:Nat}(hk:k<s.length){ev:Int}{old now:List Val}{db:List Data}(h:DbG BI s db)(h0:(ja3 s l (d+1) k ev old now db).2=0):DbG BI s (ja3 s l (d+1) k ev old now db).1:=by
 rw[ja3]at h0⊢;refine zf9 (λi hi db2 h2 h3=>?_) h h0;rw[zn hk]at hi;obtain⟨n,hn,e1,e2⟩:=zgw hi;rw[wgv e1 hn]at h3⊢;exact zd7 hs hr (trG hT hk (yaa hn) e2) h2 h3
theorem zdu{s:List wc}(hs:SchG s){l:List je}(hT:wj s l=true):∀(d:Nat),(∀{k:Nat} (hk:k<s.length) {ev:Int} {old now:List Val} {db:List Data},DbG BI s db->(ja3 s l d k ev old now db).2=0->DbG BI s (ja3 s l d k ev old now db).1)/\∀{k:Nat} {ev:Int} {old now:List Val} {db:List Data},0<=(ja3 s l d k ev old now db).2
 |0=>by
  refine⟨λ{k} hk {ev old now db} h h0=>?_,λ{k ev old now db}=>?_⟩
  ·rw[ja3]at h0⊢;split
   ·exact h
   ·rename_i hne;rw[if_neg hne]at h0
    cases h0
  ·rw[ja3];split
   ·exact yaz _
   ·exact Int.le_of_lt gb
 |d+1=>by
  obtain⟨h1,h2⟩:=zdu hs hT d;have hr:RunG s λk vals=>ja3 s l d k 1 [] vals:=⟨λk hk vals _ db h h0=>h1 hk h h0,λk vals db=>h2⟩;refine⟨λ{k} hk {ev old now db} h h0=>zie hs hT hr hk h h0,λ{k ev old now db}=>?_⟩;rw[ja3];exact zho λi db=>zjx hr
theorem runG(hs:SchG s){l:List je}(hT:wj s l=true)(d:Nat):RunG s λk vals=>ja3 s l d k 1 [] vals:=⟨λk hk vals _ db h h0=>(zdu hs hT d).1 hk h h0,λk vals db=>(zdu hs hT d).2⟩
theorem jho(l:List Term):OldL n (l.map zt):=λe he c hc=>by
 obtain⟨a,_,rfl⟩:=List.mem_map.1 he;simp only[zt,List.mem_cons,List.not_mem_nil,or_false]at hc;subst hc;exact jl (j8 wb3)
theorem jfm(l:List je):OldL n (l.map zd):=λe he c hc=>by
 obtain⟨a,_,rfl⟩:=List.mem_map.1 he;simp only[zd,List.mem_cons,List.not_mem_nil,or_false]at hc;rcases hc with rfl|rfl|rfl|rfl|rfl
 ·exact .str _
 ·exact .int _ _
 ·exact jl (j8 wb3)
 ·exact .str _
 ·exact jl (jho _)
theorem wcw:∀y∈(AV.c (.fz (l.map zd))).all,Old n y:=λy hy=>by
 simp only[AV.all,List.mem_singleton]at hy;subst hy;exact jl (jfm _)
theorem jgw{x:je}:∀y∈(AV.c (.fp (zd x))).all,Old n y:=λy hy=>by
 simp only[AV.all,List.mem_singleton]at hy;subst hy;exact .fp _ λj hj=>jfm [x] _ (List.mem_singleton.2 rfl) _ (yaa hj)
variable {G:jb}{vals:List Val}
theorem zer{v:Nat}{junk:List (List Ce)}:FrzV (E G ([]++[(v,vals.map encV++junk)])) (G.next+([]:List (Nat×List (List Ce))).length) (.c (vec (G.next+0) v (vals.map encV) junk)) (.c (.fz (vals.map encV))):=wav (k:=0) rfl (λe he x hx=>((jb5 e he).2 x hx).old _) (yaf _)
variable {d:List Data}
theorem jjx:resI (d,i,0)=.tup [.c (.fz (d.map wa)),.c (.int .i64 i),.c (.int .i64 0)]:=rfl
theorem jk9{c:Int}(h:¬c=0):resI (d,i,c)=.tup [.c .nils,.c (.int .i64 i),.c (.int .i64 c)]:=by rw[resI,if_neg h]
set_option maxHeartbeats 4000000 in
theorem wk9(hs:SchG s){l:List je}(hT:wj s l=true){run:Nat->List Val->List Data->Res}(hr:RunG s run){k:Nat}(hk:k<s.length)(ev:Int)(old now:List Val)(ho:RowO s[k] old)(hw:RowO s[k] now)(db:List Data)(h:DbG BI s db)(deep:Int)(h0:0<=deep)(h6:deep<6)
 (ih:∀{j:Nat} (hj:j<s.length) (vals:List Val),fitF s[j] vals=true->∀db,DbG BI s db->Pure Tryz.prog 165 [.c (.fz (s.map ja)),.c (.fz (l.map zd)),.c (.fz (db.map wa)),.c (.int .i64 (j:Int)),.c (.int .i64 1),.c .nils,.c (.fz (vals.map encV)),.c (.int .i64 (IntKind.i64.wrap (deep+1)))] (resV (run j vals db)))
 (hn:jac s[k] l ev old now≠[]) (G:jb) (hS:OldS G):
 Go Tryz.prog G.next js.nt js.rets (Fin G (resV (jce (λi=>zb6 run s (zat s[k].cols.length old now) (jgv l i)) (jac s[k] l ev old now) db))) [.code js.body]
  (frOf 0 [.c (.fz (s.map ja)),.c (.fz (l.map zd)),.c (.fz (db.map wa)),.c (.int .i64 (k:Int)),.c (.int .i64 ev),.c (.fz (old.map encV)),.c (.fz (now.map encV)),.c (.int .i64 deep)]) (E G []):=by
 obtain⟨hsch,hl6,_⟩:=wa7 hT;have hc8:=(hs.tab _ (yaa hk)).cols8;have c0:=NewV.pure (wd6 s l (k:Int) k ev old now rfl hk hc8 (yai hl6 gb) ho.len hw.len ho.oks hw.oks λx hx ht=>(trG hT hk hx ht).when_);have cB:=jhn s[k] old now hc8 ho.len hw.len;have hbl:(zat s[k].cols.length old now).length=2*s[k].cols.length:=by rw[zat,yaqq,ja9 ho.len,ja9 hw.len];omega
 have hbo:Oks (zat s[k].cols.length old now):=λv hv=>by
  rcases List.mem_append.1 hv with hv|hv
  ·exact zc1 ho.oks v hv
  ·exact zc1 hw.oks v hv
 have hat:=λi (hi:i∈jac s[k] l ev old now)=>zgw hi;have hlen:=whn (t:=s[k]) (l:=l) (ev:=ev) (old:=old) (now:=now);generalize jac s[k] l ev old now=ids at c0 hat hn hlen⊢;generalize zat s[k].cols.length old now=row at cB hbl hbo⊢;have hpos:0<ids.length:=List.length_pos_iff.2 hn;repeat' first|refine X ?_|refine yaC (c0) ?_|exact yaF|refine yaS ?_ ?_<;>intro _
 all_goals first
  |(exfalso;simp_all;omega)
  |contradiction
  |skip
 clear c0;obtain⟨one,hone⟩:∃one,one=λi=>zb6 run s row (jgv l i):=⟨_,rfl⟩;rw[<-hone]
 refine Go.keep [0,1,2,3,5,6,7,18,19] (Go.loops (I:=λm fr V=>∃(i:Nat) (ki:Int) (cur:List Data),m=ids.length-i/\i<=ids.length/\ki=i/\(DbG BI s cur/\jce one ids db=jce one (ids.drop i) cur)/\
  fr=[(0,.c (.fz (s.map ja))),(1,.c (.fz (l.map zd))),(2,.c (.fz (cur.map wa))),(3,.c (.int .i64 (k:Int))),(5,.c (.fz (old.map encV))),(6,.c (.fz (now.map encV))),(7,.c (.int .i64 deep)),(18,.c (.fz (ids.map encI))),(19,.c (.int .i64 ki))]/\V=E G []) ?_ _ _ _ ⟨0,_,db,rfl,yac _,rfl,⟨h,rfl⟩,rfl,rfl⟩)
 rintro m fr V ⟨i,ki,cur,rfl,hi,hki,⟨hcur,hst⟩,rfl,rfl⟩ hrec;by_cases hlt:i<ids.length
 ·obtain⟨j,hj,hij,hjt⟩:=hat _ (yaa hlt);have hG:=trG hT hk (yaa hj) hjt;obtain⟨to,hto,hit⟩:=hG.into;have cA:=zcq s l[j].into (yai hs.few gb);rw[hit]at cA;have hc8t:=(hs.tab _ (yaa hto)).cols8;rw[yab hlt,jce]at hst;have hon:one ids[i] cur=zb6 run s row l[j] cur:=by rw[hone];show zb6 run s row (jgv l ids[i]) cur=_;rw[wgv hij hj]
  rw[hon]at hst;have hko:(zb6 run s row l[j] cur).2=0->DbG BI s (zb6 run s row l[j] cur).1:=λh0=>zd7 hs hr hG hcur h0;rw[zb6,hit,ybb]at hst hko;repeat' first|refine X ?_|((first|apply yG|apply yH|apply yI);exact rfl;(first|exact yax encI hki hlt|exact yax zd hij hj))|refine yaC (cA) ?_|exact yaF|refine yaS ?_ ?_<;>intro _
  refine Go.keep [0,1,2,3,5,6,7,18,19,20,21,22,23] (Go.loops (I:=λm fr V=>∃(q:Nat) (kq:Int) (acc:List Val) (v:Nat) (junk:List (List Ce)),m=l[j].terms.length-q/\q<=l[j].terms.length/\kq=q/\Jk 3 junk/\(acc.length=q/\wbp row l[j].terms []=wbp row (l[j].terms.drop q) acc)/\
   fr=[(0,.c (.fz (s.map ja))),(1,.c (.fz (l.map zd))),(2,.c (.fz (cur.map wa))),(3,.c (.int .i64 (k:Int))),(5,.c (.fz (old.map encV))),(6,.c (.fz (now.map encV))),(7,.c (.int .i64 deep)),(18,.c (.fz (ids.map encI))),(19,.c (.int .i64 ki)),(20,.c (.fp (zd l[j]))),(21,.c (.int .i64 (to:Int))),(22,.c (vec (G.next+0) v (acc.map encV) junk)),(23,.c (.int .i64 kq))]/\V=E G [(v,acc.map encV++junk)]) ?_ _ _ _ ⟨0,_,[],0,[],rfl,yac _,rfl,Jk.nil,⟨rfl,rfl⟩,rfl,rfl⟩)
  rintro m fr V ⟨q,kq,acc,v,junk,rfl,hq,hkq,hj3,⟨hal,htm⟩,rfl,rfl⟩ hrec2;by_cases hqt:q<l[j].terms.length
  ·clear hrec;have hlt8:=hG.len;have hex:=hG.terms _ (yaa hqt);rw[show(2*(s[k].cols.length:Int))=(row.length:Int) by omega]at hex;obtain⟨he1,he2⟩:=wbb hex;have cE:=wfa l[j].terms[q].expr row O O hbo he2;rw[yab hqt,wbp]at htm;generalize jaz l[j].terms[q].expr row=ev at cE htm;obtain⟨w,b⟩:=ev;simp only at cE htm;have hz3:∀e∈acc.map encV,e.length=3:=λe he=>(jb5 e he).1;have hbd:((acc.map encV).length+1)*32<=140737488355328:=by rw[yae];omega
   have e1:acc.map encV++[encV w]=(acc++[w]).map encV:=gx
   cases b
   ·rw[if_neg yah]at htm;rw[htm]at hst;simp only at hst;rw[if_neg gb]at hst;rw[hst];repeat' first|apply Go.seq|apply Go.skip|apply Go.region|apply Go.nil|apply Go.block|apply Go.blk|apply Go.segs|(apply Go.exit;exact rfl)|(apply Go.cond true;exact rfl)|(apply Go.cond false;exact rfl)|apply yB|apply yC|((first|apply yD|apply yE);(first|exact yF|assumption);iterate 6 exact rfl)|((first|apply yG|apply yH|apply yI);exact rfl;(first|exact yJ|exact yK rfl rfl|exact yL rfl|exact yM rfl|exact rfl|exact aL rfl rfl rfl rfl rfl|exact aS rfl rfl rfl rfl rfl rfl rfl))|((first|apply yN|apply yO|apply yP);exact rfl)|exact yaF|(((first|apply yT|apply yU|apply yV|apply yW);exact rfl;(first|exact .d|exact .e|exact .n|((fail_if_success exact bqt);(fail_if_success exact bqf);exact .b)))<;>intro _)
    apply Go.draw;refine Go.qkd [(v,acc.map encV++junk)] ?_;repeat' first|(apply Qk.nil;show Go _ _ _ _ _ _ _ _)|(apply Qk.op;exact rfl;(first|(rintro _ ⟨_,rfl⟩;exact rfl)|(rintro _ ⟨_,rfl⟩;exact zaj rfl rfl rfl (yam rfl) rfl)|(rintro _ ⟨_,rfl⟩;exact yax zt hkq hqt)|(rintro _ ⟨_,rfl⟩;exact yax ja rfl hk)))|(apply Qk.no;exact rfl)|(apply Qk.pcall;(iterate 3 exact rfl);(first|exact cB|exact cE))|(apply Qk.wop;exact rfl;exact rfl;(first|exact yJ|exact yL rfl|exact zl rfl rfl rfl rfl rfl rfl (yam rfl));exact⟨_,rfl⟩)
    repeat' first|refine X ?_|exact yaF|refine yaS ?_ ?_<;>intro _
    exact .ret rfl (Fin.same rfl (jg ([],8) _))
   ·rw[if_pos rfl]at htm;repeat' first|apply Go.seq|apply Go.skip|apply Go.region|apply Go.nil|apply Go.block|apply Go.blk|apply Go.segs|(apply Go.exit;exact rfl)|(apply Go.cond true;exact rfl)|(apply Go.cond false;exact rfl)|apply yB|apply yC|((first|apply yD|apply yE);(first|exact yF|assumption);iterate 6 exact rfl)|((first|apply yG|apply yH|apply yI);exact rfl;(first|exact yJ|exact yK rfl rfl|exact yL rfl|exact yM rfl|exact rfl|exact aL rfl rfl rfl rfl rfl|exact aS rfl rfl rfl rfl rfl rfl rfl))|((first|apply yN|apply yO|apply yP);exact rfl)|exact yaF|(((first|apply yT|apply yU|apply yV|apply yW);exact rfl;(first|exact .d|exact .e|exact .n|((fail_if_success exact bqt);(fail_if_success exact bqf);exact .b)))<;>intro _)
    apply Go.draw;refine Go.qkd [(v,acc.map encV++junk)] ?_;repeat' first|(apply Qk.nil;show Go _ _ _ _ _ _ _ _)|(apply Qk.op;exact rfl;(first|(rintro _ ⟨_,rfl⟩;exact rfl)|(rintro _ ⟨_,rfl⟩;exact zaj rfl rfl rfl (yam rfl) rfl)|(rintro _ ⟨_,rfl⟩;exact yax zt hkq hqt)|(rintro _ ⟨_,rfl⟩;exact yax ja rfl hk)))|(apply Qk.no;exact rfl)|(apply Qk.pcall;(iterate 3 exact rfl);(first|exact cB|exact cE))|(apply Qk.wop;exact rfl;exact rfl;(first|exact yJ|exact yL rfl|exact zl rfl rfl rfl rfl rfl rfl (yam rfl));exact⟨_,rfl⟩)
    repeat' first|refine X ?_|(refine Go.app1 (k:=0) (z:=encV w) rfl rfl rfl rfl rfl hz3 hj3 rfl hbd λv' junk' hj'=>?_)|exact yaF|refine yaS ?_ ?_<;>intro _
    rw[e1];refine Go.keep [0,1,2,3,5,6,7,18,19,20,21,22,23] ?_
    refine Go.freezeN (l:=[(v',(acc++[w]).map encV++junk')]) (m:=[(0,[encV w])]) (fr':=[(0,.c (.fz (s.map ja))),(1,.c (.fz (l.map zd))),(2,.c (.fz (cur.map wa))),(3,.c (.int .i64 (k:Int))),(5,.c (.fz (old.map encV))),(6,.c (.fz (now.map encV))),(7,.c (.int .i64 deep)),(18,.c (.fz (ids.map encI))),(19,.c (.int .i64 ki)),(20,.c (.fp (zd l[j]))),(21,.c (.int .i64 (to:Int))),(22,.c (vec (G.next+0) v' ((acc++[w]).map encV) junk')),(23,.c (.int .i64 (IntKind.i64.wrap (kq+1))))]) hS (λb hb e he x hx=>?_) (yaf _)
     (.frz rfl (.refl zas) (.frz rfl (.refl wcw) (.frz rfl (.refl wbc) (.frz rfl (.refl jt) (.frz rfl (.refl z0) (.frz rfl (.refl z0) (.frz rfl (.refl jt) (.frz rfl (.refl jc0) (.frz rfl (.refl jt) (.frz rfl (.refl jgw) (.frz rfl (.refl jt) (.frz rfl (.refl (zai gx)) (.frz rfl (.refl jt) .nil))))))))))))) ?_
    ·rw[List.mem_singleton.1 hb]at he;rcases List.mem_append.1 he with he|he
     ·exact((jb5 e he).2 x hx).old _
     ·exact((hj' e he).2 x hx).old _
    exact hrec2 _ _ _ O ⟨q+1,_,acc++[w],v',junk',rfl,hqt,wb hkq O,hj',⟨by rw[yaqq,hal];rfl,htm⟩,rfl,rfl⟩
  ·clear hrec2;rw[yad O,wbp]at htm;rw[htm]at hst hko;simp only at hst hko;have hlt8:=hG.len
   refine Go.freezeN (l:=[]) (m:=[(v,acc.map encV++junk)]) (fr':=[(0,.c (.fz (s.map ja))),(1,.c (.fz (l.map zd))),(2,.c (.fz (cur.map wa))),(3,.c (.int .i64 (k:Int))),(5,.c (.fz (old.map encV))),(6,.c (.fz (now.map encV))),(7,.c (.int .i64 deep)),(18,.c (.fz (ids.map encI))),(19,.c (.int .i64 ki)),(20,.c (.fp (zd l[j]))),(21,.c (.int .i64 (to:Int))),(22,.c (.fz (acc.map encV))),(23,.c (.int .i64 kq))]) hS (λb hb=>by cases hb) (yaf _)
    (.frz rfl (.refl zas) (.frz rfl (.refl wcw) (.frz rfl (.refl wbc) (.frz rfl (.refl jt) (.frz rfl (.refl z0) (.frz rfl (.refl z0) (.frz rfl (.refl jt) (.frz rfl (.refl jc0) (.frz rfl (.refl jt) (.frz rfl (.refl jgw) (.frz rfl (.refl jt) (.frz rfl zer (.frz rfl (.refl jt) .nil))))))))))))) ?_
   have c5:=zb4 s[to] acc O;rw[jid,zn hto]at hst hko
   cases hf:fitF s[to] acc
   ·rw[hf]at c5;rw[hf,if_neg yah,if_neg gb]at hst;rw[hst];repeat' first|refine X ?_|((first|apply yG|apply yH|apply yI);exact rfl;(first|exact yax ja rfl hto))|refine yaC (c5) ?_|exact yaF|refine yaS ?_ ?_<;>intro _
    all_goals first
     |contradiction
     |exact .ret rfl (Fin.same rfl (jg ([],8) _))
     |(exfalso;simp_all;done)
   ·rw[hf]at c5;rw[hf,if_pos rfl,wjw]at hst hko;have c6:=jec hs hto acc false cur rfl (jfj hcur hto) (j6 hf).1 (za9 hf hc8t);rw[if_neg yah]at c6;have hkp:=wid hs hto hf hcur;have hcd:=zeq (s:=s) (k:=to) (vals:=acc) (rep:=false) (db:=cur);generalize insF (chgF s 12) s to acc false cur=p at c6 hkp hcd hst hko;obtain⟨pd,pi,pc⟩:=p;simp only at hkp hcd hst hko;by_cases hpc:pc=0
    ·subst hpc;rw[jjx]at c6;have hpd:=hkp rfl;rw[if_pos rfl]at hst hko;have c7:=ih hto acc hf pd hpd;have hcd7:=hr.cod to acc pd;generalize run to acc pd=p2 at c7 hst hko hcd7;obtain⟨d2,e2⟩:=p2;simp only at hst hko hcd7;by_cases he2:e2=0
     ·subst he2;rw[wfi]at c7;rw[if_pos rfl]at hst;repeat' first|refine X ?_|((first|apply yG|apply yH|apply yI);exact rfl;(first|exact yax ja rfl hto))|refine yaC (c5) ?_|refine yaC (c6) ?_|refine yaC (c7) ?_|exact yaF|refine yaS ?_ ?_<;>intro _
      all_goals first
       |contradiction
       |exact Go.keep [0,1,2,3,5,6,7,18,19] (hrec _ _ _ O ⟨i+1,_,d2,rfl,hlt,wb hki O,⟨hko rfl,hst⟩,rfl,rfl⟩)
       |(exfalso;simp_all;done)
     ·rw[if_neg he2]at hst;rw[hst];rw[jab (e:=e2) rfl he2]at c7;rw[wai he2];repeat' first|refine X ?_|((first|apply yG|apply yH|apply yI);exact rfl;(first|exact yax ja rfl hto))|refine yaC (c5) ?_|refine yaC (c6) ?_|refine yaC (c7) ?_|exact yaF|refine yaS ?_ ?_<;>intro _
      all_goals first
       |contradiction
       |exact .ret rfl (Fin.same rfl (λy hy=>jg ([],e2) _ y (by rw[wai he2];exact hy)))
       |(exfalso;simp_all;done)
    ·rw[if_neg hpc,if_neg hpc]at hst;rw[hst];rw[jk9 hpc]at c6;rw[wai hpc];repeat' first|refine X ?_|((first|apply yG|apply yH|apply yI);exact rfl;(first|exact yax ja rfl hto))|refine yaC (c5) ?_|refine yaC (c6) ?_|exact yaF|refine yaS ?_ ?_<;>intro _
     all_goals first
      |contradiction
      |exact .ret rfl (Fin.same rfl (λy hy=>jg ([],pc) _ y (by rw[wai hpc];exact hy)))
      |(exfalso;simp_all;done)
 ·rw[yad O,jce]at hst;rw[hst];repeat' first|refine X ?_|exact yaF|refine yaS ?_ ?_<;>intro _
  exact .ret rfl (Fin.same rfl (jg (cur,0) _))
theorem wjx(hs:SchG s){l:List je}(hT:wj s l=true){k:Nat}(hk:k<s.length)(ev:Int)(old now:List Val)(ho:RowO s[k] old)(hw:RowO s[k] now)(db:List Data)(deep:Int)(hn:jac s[k] l ev old now=[])(G:jb)(hS:OldS G):
 Go Tryz.prog G.next js.nt js.rets (Fin G (resV (db,0))) [.code js.body]
  (frOf 0 [.c (.fz (s.map ja)),.c (.fz (l.map zd)),.c (.fz (db.map wa)),.c (.int .i64 (k:Int)),.c (.int .i64 ev),.c (.fz (old.map encV)),.c (.fz (now.map encV)),.c (.int .i64 deep)]) (E G []):=by
 obtain⟨hsch,hl6,_⟩:=wa7 hT;have hc8:=(hs.tab _ (yaa hk)).cols8;have c0:=NewV.pure (wd6 s l (k:Int) k ev old now rfl hk hc8 (yai hl6 gb) ho.len hw.len ho.oks hw.oks λx hx ht=>(trG hT hk hx ht).when_);rw[hn]at c0;repeat' first|refine X ?_|refine yaC (c0) ?_|exact yaF|refine yaS ?_ ?_<;>intro _
 all_goals first
  |contradiction
  |skip
 refine Go.keep [2,18,19] (Go.loops (I:=λm fr V=>m=0/\fr=[(2,.c (.fz (db.map wa))),(18,.c (.fz (([]:List Int).map encI))),(19,.c (.int .i64 0))]/\V=E G []) ?_ _ _ _ ⟨rfl,rfl,rfl⟩);rintro m fr V ⟨rfl,rfl,rfl⟩ hrec;repeat' first|refine X ?_|exact yaF|refine yaS ?_ ?_<;>intro _
 exact .ret rfl (Fin.same rfl (jg (db,0) _))
theorem zla(hs:SchG s){l:List je}(hT:wj s l=true){k:Nat}(hk:k<s.length)(ev:Int)(old now:List Val)(ho:RowO s[k] old)(hw:RowO s[k] now)(db:List Data)(hn:jac s[k] l ev old now≠[])(G:jb)(hS:OldS G):
 Go Tryz.prog G.next js.nt js.rets (Fin G (resV ([],6))) [.code js.body]
  (frOf 0 [.c (.fz (s.map ja)),.c (.fz (l.map zd)),.c (.fz (db.map wa)),.c (.int .i64 (k:Int)),.c (.int .i64 ev),.c (.fz (old.map encV)),.c (.fz (now.map encV)),.c (.int .i64 6)]) (E G []):=by
 obtain⟨hsch,hl6,_⟩:=wa7 hT;have hc8:=(hs.tab _ (yaa hk)).cols8;have c0:=NewV.pure (wd6 s l (k:Int) k ev old now rfl hk hc8 (yai hl6 gb) ho.len hw.len ho.oks hw.oks λx hx ht=>(trG hT hk hx ht).when_);generalize jac s[k] l ev old now=ids at c0 hn;have hpos:0<ids.length:=List.length_pos_iff.2 hn;repeat' first|refine X ?_|refine yaC (c0) ?_|exact yaF|refine yaS ?_ ?_<;>intro _
 all_goals first
  |contradiction
  |exact .ret rfl (Fin.same rfl (jg ([],6) _))
  |(exfalso;simp_all;done)
  |(exfalso;simp_all;omega)
theorem who{s:List wc}(hs:SchG s){l:List je}(hT:wj s l=true):∀(d:Nat),d<=6->∀{k:Nat} (hk:k<s.length) (ev:Int) (old now:List Val),RowO s[k] old->RowO s[k] now->∀(db:List Data),DbG BI s db->∀(deep:Int),deep=6-(d:Int)->∀(G:jb),OldS G->
 Go Tryz.prog G.next js.nt js.rets (Fin G (resV (ja3 s l d k ev old now db))) [.code js.body]
  (frOf 0 [.c (.fz (s.map ja)),.c (.fz (l.map zd)),.c (.fz (db.map wa)),.c (.int .i64 (k:Int)),.c (.int .i64 ev),.c (.fz (old.map encV)),.c (.fz (now.map encV)),.c (.int .i64 deep)]) (E G [])
 |0,h6,k,hk,ev,old,now,ho,hw,db,h,deep,hd,G,hS=>by
  rw[ja3,zn hk];by_cases hn:jac s[k] l ev old now=[]
  ·rw[if_pos hn];exact wjx hs hT hk ev old now ho hw db deep hn G hS
  ·rw[if_neg hn];have e:deep=6:=O;subst e;exact zla hs hT hk ev old now ho hw db hn G hS
 |d+1,h6,k,hk,ev,old,now,ho,hw,db,h,deep,hd,G,hS=>by
  rw[ja3,zn hk];by_cases hn:jac s[k] l ev old now=[]
  ·rw[hn,jce];exact wjx hs hT hk ev old now ho hw db deep hn G hS
  ·refine wk9 hs hT (runG hs hT d) hk ev old now ho hw db h deep O O (λ{j} hj vals hf db h=>?_) hn G hS;refine yar wcf λG hS hA=>?_;clear hA
   refine Go.freezeN (l:=[]) (m:=[]) (fr':=frOf 0 [.c (.fz (s.map ja)),.c (.fz (l.map zd)),.c (.fz (db.map wa)),.c (.int .i64 (j:Int)),.c (.int .i64 1),.c (.fz (([]:List Val).map encV)),.c (.fz (vals.map encV)),.c (.int .i64 (IntKind.i64.wrap (deep+1)))]) hS (λb hb=>by cases hb) (yaf _)
    (.frz rfl (.refl zas) (.frz rfl (.refl wcw) (.frz rfl (.refl wbc) (.frz rfl (.refl jt) (.frz rfl (.refl jt) (.frz rfl (.c .nil) (.frz rfl (.refl z0) (.frz rfl (.refl jt) .nil))))))))
    (who hs hT d O hj 1 [] vals jc1 (wio hf) db h _ (by rw[zk O O];omega) G hS)
theorem zhp(hs:SchG s){l:List je}(hT:wj s l=true){k:Nat}(hk:k<s.length)(ev:Int)(old now:List Val)(ho:RowO s[k] old)(hw:RowO s[k] now)(db:List Data)(h:DbG BI s db):
 Pure Tryz.prog 165 [.c (.fz (s.map ja)),.c (.fz (l.map zd)),.c (.fz (db.map wa)),.c (.int .i64 (k:Int)),.c (.int .i64 ev),.c (.fz (old.map encV)),.c (.fz (now.map encV)),.c (.int .i64 0)] (resV (ja3 s l 6 k ev old now db)):=
 Pure.run mixed wcf gz λG hS _=>who hs hT 6 (yaf _) hk ev old now ho hw db h 0 rfl G hS
variable {L:ChL}{db:List Data}
theorem wt.ptr{xs:List Ce}{V:jb}(h:wt L n s xs db V):∀y∈(AV.c (.ptr L.c L.vc 0 0)).all,Old V.next y:=z4 h.lc
set_option maxHeartbeats 4000000 in
theorem zkn(hs:SchG s){l:List je}(hT:wj s l=true)(hb:∀x∈l,x.when_.length<=34359738368){run:Nat->List Val->List Data->Res}(hr:RunG s run){k:Nat}(hk:k<s.length)(ev:Int)(old now:List Val)(ho:RowO s[k] old)(hw:RowO s[k] now)(db:List Data)(hdb:DbG BI s db)(xs:List Ce)(V:jb)(h:wt L n s xs db V)(deep:Int)(h0:0<=deep)(h6:deep<6)
 (ih:∀{j:Nat} (hj:j<s.length) (vals:List Val),fitF s[j] vals=true->∀db,DbG BI s db->∀xs V,wt L n s xs db V->Ok Tryz.prog 86 [.c (.ptr L.c L.vc 0 0),.c (.fz (l.map zd)),.c (.int .i64 (j:Int)),.c (.int .i64 1),.c .nils,.c (.fz (vals.map encV)),.c (.int .i64 (IntKind.i64.wrap (deep+1)))] V (Done L n s (run j vals db) V))
 (hn:jac s[k] l ev old now≠[]) (hS:OldS V):
 Go Tryz.prog V.next ji.nt ji.rets (Done L n s (jce (λi=>zb6 run s (zat s[k].cols.length old now) (jgv l i)) (jac s[k] l ev old now) db) V) [.code ji.body]
  (frOf 0 [.c (.ptr L.c L.vc 0 0),.c (.fz (l.map zd)),.c (.int .i64 (k:Int)),.c (.int .i64 ev),.c (.fz (old.map encV)),.c (.fz (now.map encV)),.c (.int .i64 deep)]) V:=by
 obtain⟨hsch,hl6,_⟩:=wa7 hT;have hc8:=(hs.tab _ (yaa hk)).cols8;have ho8:old.length<=8:=by
  rcases ho.len with e|e
  ·rw[e];exact yac _
  ·omega
 have hw8:now.length<=8:=by
  rcases hw.len with e|e
  ·rw[e];exact yac _
  ·omega
 have c0:=NewV.pure (zgv s l (k:Int) k ev old now rfl hk hc8 (yai hl6 gb) hb ho8 hw8);have cB:=wic s[k].cols.length old now hc8 ho8 hw8;have hbl:(zat s[k].cols.length old now).length=2*s[k].cols.length:=by rw[zat,yaqq,ja9 ho.len,ja9 hw.len];omega
 have hbo:Oks (zat s[k].cols.length old now):=λv hv=>by
  rcases List.mem_append.1 hv with hv|hv
  ·exact zc1 ho.oks v hv
  ·exact zc1 hw.oks v hv
 have hba:zq (zat s[k].cols.length old now) 16=true:=wd.2 ⟨O,hbo⟩;have hat:=λi (hi:i∈jac s[k] l ev old now)=>zgw hi;have hlen:=whn (t:=s[k]) (l:=l) (ev:=ev) (old:=old) (now:=now);generalize jac s[k] l ev old now=ids at c0 hat hn hlen⊢;generalize zat s[k].cols.length old now=row at cB hbl hbo hba⊢;have hpos:0<ids.length:=List.length_pos_iff.2 hn;repeat' first|refine X ?_|((first|apply yG|apply yH|apply yI);exact rfl;(first|exact wbo h rfl|exact yax ja rfl hk))|refine yaC (c0) ?_|refine yaC (cB) ?_|exact yaF|refine yaS ?_ ?_<;>intro _
 all_goals first
  |(exfalso;simp_all;omega)
  |contradiction
  |skip
 clear c0 cB;obtain⟨one,hone⟩:∃one,one=λi=>zb6 run s row (jgv l i):=⟨_,rfl⟩;rw[<-hone]
 refine Go.keep [0,1,6,16,58,59,60] (Go.loops (I:=λm fr V'=>∃(i:Nat) (ki:Int) (cur:List Data) (xs:List Ce),m=ids.length-i/\i<=ids.length/\ki=i/\(DbG BI s cur/\wt L n s xs cur V'/\Kept n V V'/\jce one ids db=jce one (ids.drop i) cur)/\
  fr=[(0,.c (.ptr L.c L.vc 0 0)),(1,.c (.fz (l.map zd))),(6,.c (.int .i64 deep)),(16,.c (.fz (row.map encV))),(58,.c (.fz (ids.map encI))),(59,.c (.int .i64 (ids.length:Int))),(60,.c (.int .i64 ki))]) ?_ _ _ _ ⟨0,_,db,xs,rfl,yac _,rfl,⟨hdb,h,.refl,rfl⟩,rfl⟩)
 clear h hS hdb;rintro m fr V' ⟨i,ki,cur,xs,rfl,hi,hki,⟨hcur,h,hK,hst⟩,rfl⟩ hrec;by_cases hlt:i<ids.length
 ·obtain⟨j,hj,hij,hjt⟩:=hat _ (yaa hlt);have hG:=trG hT hk (yaa hj) hjt;obtain⟨to,hto,hit⟩:=hG.into;have cA:=jae s l[j].into (yai hs.few gb);rw[hit]at cA;have hc8t:=(hs.tab _ (yaa hto)).cols8;rw[yab hlt,jce]at hst;have hon:one ids[i] cur=zb6 run s row l[j] cur:=by rw[hone];show zb6 run s row (jgv l ids[i]) cur=_;rw[wgv hij hj]
  rw[hon]at hst;have hko:(zb6 run s row l[j] cur).2=0->DbG BI s (zb6 run s row l[j] cur).1:=λh0=>zd7 hs hr hG hcur h0;rw[zb6,hit,ybb]at hst hko;refine .old λ_ hSt=>?_;have hN:=hK.next;refine Go.ext ?_ (jc2 hSt);repeat' first|apply Go.seq|apply Go.skip|apply Go.region|apply Go.nil|apply Go.block|apply Go.blk|apply Go.segs|(apply Go.exit;exact rfl)|(apply Go.cond true;exact rfl)|(apply Go.cond false;exact rfl)|apply yB|apply yC|((first|apply yD|apply yE);(first|exact yF|assumption);iterate 6 exact rfl)|((first|apply yG|apply yH|apply yI);exact rfl;(first|exact yJ|exact yK rfl rfl|exact yL rfl|exact yM rfl|exact rfl|exact aL rfl rfl rfl rfl rfl|exact aS rfl rfl rfl rfl rfl rfl rfl|exact yax encI hki hlt|exact yax zd hij hj))|((first|apply yN|apply yO|apply yP);exact rfl)|exact yaF|(((first|apply yT|apply yU|apply yV|apply yW);exact rfl;(first|exact .d|exact .e|exact .n|((fail_if_success exact bqt);(fail_if_success exact bqf);exact .b)))<;>intro _)
  apply Go.draw;refine Go.qkd [] ?_;repeat' first|(apply Qk.nil;show Go _ _ _ _ _ _ _ _)|(apply Qk.op;exact rfl;(first|(rintro _ ⟨_,rfl⟩;exact rfl)|(rintro _ ⟨_,rfl⟩;exact zaj rfl rfl rfl (yam rfl) rfl)|(rintro _ ⟨_,rfl⟩;exact wbo (h.grow _) rfl)))|(apply Qk.no;exact rfl)|(apply Qk.pcall;(iterate 3 exact rfl);(first|exact cA))|(apply Qk.wop;exact rfl;exact rfl;(first|exact yJ|exact yL rfl|exact zl rfl rfl rfl rfl rfl rfl (yam rfl));exact⟨_,rfl⟩)
  repeat' first|refine X ?_|exact yaF|refine yaS ?_ ?_<;>intro _
  refine Go.keep [0,1,6,16,19,20,21,58,59,60,77,78,79] (Go.loops (I:=λm fr V2=>∃(q:Nat) (kq:Int) (acc:List Val) (v:Nat) (junk:List (List Ce)),m=l[j].terms.length-q/\q<=l[j].terms.length/\kq=q/\Jk 3 junk/\(acc.length=q/\wbp row l[j].terms []=wbp row (l[j].terms.drop q) acc)/\
   fr=[(0,.c (.ptr L.c L.vc 0 0)),(1,.c (.fz (l.map zd))),(6,.c (.int .i64 deep)),(16,.c (.fz (row.map encV))),(19,.c (.fp (zd l[j]))),(20,.c (.int .i64 (to:Int))),(21,.c (vec (V'.next+0) v (acc.map encV) junk)),(58,.c (.fz (ids.map encI))),(59,.c (.int .i64 (ids.length:Int))),(60,.c (.int .i64 ki)),(77,.c (.fz (l[j].terms.map zt))),(78,.c (.int .i64 (l[j].terms.length:Int))),(79,.c (.int .i64 kq))]/\V2=E V' [(v,acc.map encV++junk)]) ?_ _ _ _ ⟨0,_,[],0,[],rfl,yac _,rfl,Jk.nil,⟨rfl,rfl⟩,rfl,rfl⟩)
  rintro m fr V2 ⟨q,kq,acc,v,junk,rfl,hq,hkq,hj3,⟨hal,htm⟩,rfl,rfl⟩ hrec2;by_cases hqt:q<l[j].terms.length
  ·clear hrec;have hlt8:=hG.len;have hex:=hG.terms _ (yaa hqt);rw[show(2*(s[k].cols.length:Int))=(row.length:Int) by omega]at hex;obtain⟨he1,he2⟩:=wbb hex;have cE:=wh3 l[j].terms[q].expr row O O;rw[wem,jc8,hba,hex,yav,if_pos rfl]at cE;rw[yab hqt,wbp]at htm;generalize jaz l[j].terms[q].expr row=ev at cE htm;obtain⟨w,b⟩:=ev;simp only at cE htm;have hN2:V.next<=(E V' [(v,acc.map encV++junk)]).next:=yai hN (by rw[zan];exact ybc _ _);have hz3:∀e∈acc.map encV,e.length=3:=λe he=>(jb5 e he).1;have hbd:((acc.map encV).length+1)*32<=140737488355328:=by rw[yae];omega
   have e1:acc.map encV++[encV w]=(acc++[w]).map encV:=gx
   cases b
   ·rw[if_neg yah]at htm;rw[htm]at hst;simp only at hst;rw[if_neg gb]at hst;rw[hst];repeat' first|refine X ?_|((first|apply yG|apply yH|apply yI);exact rfl;(first|exact yax zt hkq hqt))|refine yaC (cE) ?_|exact yaF|refine yaS ?_ ?_<;>intro _
    all_goals first
     |contradiction
     |exact .ret rfl ⟨rfl,hK.trans (Kept.grow h _),λh=>by cases h⟩
     |(exfalso;simp_all;done)
   ·rw[if_pos rfl]at htm;repeat' first|refine X ?_|((first|apply yG|apply yH|apply yI);exact rfl;(first|exact yax zt hkq hqt))|(apply Go.app1;exact rfl;exact rfl;exact rfl;exact rfl;exact rfl;exact hz3;exact hj3;exact rfl;exact hbd;intro v' junk' hj')|refine yaC (cE) ?_|exact yaF|refine yaS ?_ ?_<;>intro _
    all_goals first
     |contradiction
     |skip
    refine Go.keep [0,1,6,16,19,20,21,58,59,60,77,78,79] (hrec2 _ _ _ O ⟨q+1,_,acc++[w],v',junk',rfl,hqt,wb hkq O,hj',⟨by rw[yaqq,hal];rfl,htm⟩, ?_, ?_⟩)
    ·rw[<-e1];rfl
    ·rw[<-e1];rfl
  ·clear hrec2;rw[yad O,wbp]at htm;rw[htm]at hst hko;simp only at hst hko;have hlt8:=hG.len
   refine Go.freezeN (l:=[]) (m:=[(v,acc.map encV++junk)]) (fr':=[(0,.c (.ptr L.c L.vc 0 0)),(1,.c (.fz (l.map zd))),(6,.c (.int .i64 deep)),(16,.c (.fz (row.map encV))),(19,.c (.fp (zd l[j]))),(20,.c (.int .i64 (to:Int))),(21,.c (.fz (acc.map encV))),(58,.c (.fz (ids.map encI))),(59,.c (.int .i64 (ids.length:Int))),(60,.c (.int .i64 ki)),(77,.c (.fz (l[j].terms.map zt))),(78,.c (.int .i64 (l[j].terms.length:Int))),(79,.c (.int .i64 kq))]) hSt (λb hb=>by cases hb) hN
    (.frz rfl (.refl h.ptr) (.frz rfl (.refl wcw) (.frz rfl (.refl jt) (.frz rfl (.refl z0) (.frz rfl (.refl jgw) (.frz rfl (.refl jt) (.frz rfl zer (.frz rfl (.refl jc0) (.frz rfl (.refl jt) (.frz rfl (.refl jt) (.frz rfl (.refl (λy hy=>by rw[AV.all,List.mem_singleton]at hy;subst hy;exact jl (jho _))) (.frz rfl (.refl jt) (.frz rfl (.refl jt) .nil))))))))))))) ?_
   rw[jc2 hSt];have c5:=jik s[to] acc O;rw[jid,zn hto]at hst hko
   cases hf:fitF s[to] acc
   ·rw[hf]at c5;rw[hf,if_neg yah,if_neg gb]at hst;rw[hst];repeat' first|refine X ?_|((first|apply yG|apply yH|apply yI);exact rfl;(first|exact wbo h rfl|exact yax ja rfl hto))|refine yaC (c5) ?_|exact yaF|refine yaS ?_ ?_<;>intro _
    all_goals first
     |contradiction
     |exact .ret rfl ⟨rfl,hK,λh=>by cases h⟩
     |(exfalso;simp_all;done)
   ·rw[hf]at c5;rw[hf,if_pos rfl,wjw]at hst hko;have c6:=zfj hs hto acc false cur rfl xs V' h (jfj hcur hto) (j6 hf).1 (za9 hf hc8t);rw[if_neg yah]at c6;have hkp:=wid hs hto hf hcur;have hcd:=zeq (s:=s) (k:=to) (vals:=acc) (rep:=false) (db:=cur);generalize insF (chgF s 12) s to acc false cur=p at c6 hkp hcd hst hko;obtain⟨pd,pi,pc⟩:=p;simp only at hkp hcd hst hko;repeat' first|refine X ?_|((first|apply yG|apply yH|apply yI);exact rfl;(first|exact wbo h rfl|exact yax ja rfl hto))|refine yaC (c5) ?_|exact yaF|refine yaS ?_ ?_<;>intro _
    all_goals first
     |contradiction
     |skip
    refine .call _ rfl rfl rfl c6 ?_;rintro r9 V3 ⟨hr9,hk3,hq3⟩;rw[hr9];simp only at hq3⊢;clear hr9 c6;have hK3:=hK.trans hk3;by_cases hpc:pc=0
    ·subst hpc;have hpd:=hkp rfl;obtain⟨xs3,hH3⟩:=hq3 rfl;rw[if_pos rfl]at hst hko;have c7:=ih hto acc hf pd hpd xs3 V3 hH3;have hcd7:=hr.cod to acc pd;generalize run to acc pd=p2 at c7 hst hko hcd7;obtain⟨d2,e2⟩:=p2;simp only at hst hko hcd7;repeat' first|refine X ?_|exact yaF|refine yaS ?_ ?_<;>intro _
     all_goals first
      |contradiction
      |skip
     refine .call _ rfl rfl rfl c7 ?_;rintro r9 V4 ⟨hr9,hk4,hq4⟩;rw[hr9];simp only at hq4⊢;clear hr9 c7;have hK4:=hK3.trans hk4;by_cases he2:e2=0
     ·subst he2;obtain⟨xs4,hH4⟩:=hq4 rfl;rw[if_pos rfl]at hst;repeat' first|refine X ?_|exact yaF|refine yaS ?_ ?_<;>intro _
      all_goals first
       |contradiction
       |exact Go.keep [0,1,6,16,58,59,60] (hrec _ _ _ O ⟨i+1,_,d2,xs4,rfl,hlt,wb hki O,⟨hko rfl,hH4,hK4,hst⟩,rfl⟩)
       |(exfalso;simp_all;done)
     ·rw[if_neg he2]at hst;rw[hst];repeat' first|refine X ?_|exact yaF|refine yaS ?_ ?_<;>intro _
      all_goals first
       |contradiction
       |exact .ret rfl ⟨rfl,hK4,λh=>absurd h he2⟩
       |(exfalso;simp_all;done)
    ·rw[if_neg hpc,if_neg hpc]at hst;rw[hst];repeat' first|refine X ?_|exact yaF|refine yaS ?_ ?_<;>intro _
     all_goals first
      |contradiction
      |exact .ret rfl ⟨rfl,hK3,λh=>absurd h hpc⟩
      |(exfalso;simp_all;done)
 ·rw[yad O,jce]at hst;rw[hst];repeat' first|refine X ?_|exact yaF|refine yaS ?_ ?_<;>intro _
  exact .ret rfl ⟨rfl,hK,λ_=>⟨xs,h⟩⟩
theorem wlh(hs:SchG s){l:List je}(hT:wj s l=true)(hb:∀x∈l,x.when_.length<=34359738368){k:Nat}(hk:k<s.length)(ev:Int)(old now:List Val)(ho:RowO s[k] old)(hw:RowO s[k] now)(db:List Data)(xs:List Ce)(V:jb)(h:wt L n s xs db V)(deep:Int)(hn:jac s[k] l ev old now=[]):
 Go Tryz.prog V.next ji.nt ji.rets (Done L n s (db,0) V) [.code ji.body]
  (frOf 0 [.c (.ptr L.c L.vc 0 0),.c (.fz (l.map zd)),.c (.int .i64 (k:Int)),.c (.int .i64 ev),.c (.fz (old.map encV)),.c (.fz (now.map encV)),.c (.int .i64 deep)]) V:=by
 obtain⟨hsch,hl6,_⟩:=wa7 hT;have hc8:=(hs.tab _ (yaa hk)).cols8;have ho8:old.length<=8:=by
  rcases ho.len with e|e
  ·rw[e];exact yac _
  ·omega
 have hw8:now.length<=8:=by
  rcases hw.len with e|e
  ·rw[e];exact yac _
  ·omega
 have c0:=NewV.pure (zgv s l (k:Int) k ev old now rfl hk hc8 (yai hl6 gb) hb ho8 hw8);have cB:=wic s[k].cols.length old now hc8 ho8 hw8;rw[hn]at c0;repeat' first|refine X ?_|((first|apply yG|apply yH|apply yI);exact rfl;(first|exact wbo h rfl|exact yax ja rfl hk))|refine yaC (c0) ?_|refine yaC (cB) ?_|exact yaF|refine yaS ?_ ?_<;>intro _
 all_goals first
  |contradiction
  |skip
 refine Go.keep [58,59,60] (Go.loops (I:=λm fr V'=>m=0/\fr=[(58,.c (.fz (([]:List Int).map encI))),(59,.c (.int .i64 0)),(60,.c (.int .i64 0))]/\V'=V) ?_ _ _ _ ⟨rfl,rfl,rfl⟩);rintro m fr V' ⟨rfl,rfl,rfl⟩ hrec;repeat' first|refine X ?_|exact yaF|refine yaS ?_ ?_<;>intro _
 exact .ret rfl ⟨rfl,.refl,λ_=>⟨xs,h⟩⟩
theorem zln(hs:SchG s){l:List je}(hT:wj s l=true)(hb:∀x∈l,x.when_.length<=34359738368){k:Nat}(hk:k<s.length)(ev:Int)(old now:List Val)(ho:RowO s[k] old)(hw:RowO s[k] now)(db:List Data)(xs:List Ce)(V:jb)(h:wt L n s xs db V)(hn:jac s[k] l ev old now≠[]):
 Go Tryz.prog V.next ji.nt ji.rets (Done L n s ([],6) V) [.code ji.body]
  (frOf 0 [.c (.ptr L.c L.vc 0 0),.c (.fz (l.map zd)),.c (.int .i64 (k:Int)),.c (.int .i64 ev),.c (.fz (old.map encV)),.c (.fz (now.map encV)),.c (.int .i64 6)]) V:=by
 obtain⟨hsch,hl6,_⟩:=wa7 hT;have hc8:=(hs.tab _ (yaa hk)).cols8;have ho8:old.length<=8:=by
  rcases ho.len with e|e
  ·rw[e];exact yac _
  ·omega
 have hw8:now.length<=8:=by
  rcases hw.len with e|e
  ·rw[e];exact yac _
  ·omega
 have c0:=NewV.pure (zgv s l (k:Int) k ev old now rfl hk hc8 (yai hl6 gb) hb ho8 hw8);generalize jac s[k] l ev old now=ids at c0 hn;have hpos:0<ids.length:=List.length_pos_iff.2 hn;repeat' first|refine X ?_|((first|apply yG|apply yH|apply yI);exact rfl;(first|exact wbo h rfl))|refine yaC (c0) ?_|exact yaF|refine yaS ?_ ?_<;>intro _
 all_goals first
  |contradiction
  |exact .ret rfl ⟨rfl,.refl,λh=>by cases h⟩
  |(exfalso;simp_all;done)
  |(exfalso;simp_all;omega)
theorem zjy{L:ChL}{n:Nat}{s:List wc}(hs:SchG s){l:List je}(hT:wj s l=true)(hb:∀x∈l,x.when_.length<=34359738368):∀(d:Nat),d<=6->∀{k:Nat} (hk:k<s.length) (ev:Int) (old now:List Val),RowO s[k] old->RowO s[k] now->∀(db:List Data),DbG BI s db->∀(xs:List Ce) (V:jb),wt L n s xs db V->∀(deep:Int),deep=6-(d:Int)->OldS V->
 Go Tryz.prog V.next ji.nt ji.rets (Done L n s (ja3 s l d k ev old now db) V) [.code ji.body]
  (frOf 0 [.c (.ptr L.c L.vc 0 0),.c (.fz (l.map zd)),.c (.int .i64 (k:Int)),.c (.int .i64 ev),.c (.fz (old.map encV)),.c (.fz (now.map encV)),.c (.int .i64 deep)]) V
 |0,h6,k,hk,ev,old,now,ho,hw,db,hdb,xs,V,h,deep,hd,hS=>by
  rw[ja3,zn hk];by_cases hn:jac s[k] l ev old now=[]
  ·rw[if_pos hn];exact wlh hs hT hb hk ev old now ho hw db xs V h deep hn
  ·rw[if_neg hn];have e:deep=6:=O;subst e;exact zln hs hT hb hk ev old now ho hw db xs V h hn
 |d+1,h6,k,hk,ev,old,now,ho,hw,db,hdb,xs,V,h,deep,hd,hS=>by
  rw[ja3,zn hk];by_cases hn:jac s[k] l ev old now=[]
  ·rw[hn,jce];exact wlh hs hT hb hk ev old now ho hw db xs V h deep hn
  ·refine zkn hs hT hb (runG hs hT d) hk ev old now ho hw db hdb xs V h deep O O (λ{j} hj vals hf db hdb xs V h=>?_) hn hS;refine Ok.run0 mixed za4 gz λhS hA=>?_;clear hA;refine Go.ext ?_ (jc2 hS)
   refine Go.freezeN (l:=[]) (m:=[]) (fr':=frOf 0 [.c (.ptr L.c L.vc 0 0),.c (.fz (l.map zd)),.c (.int .i64 (j:Int)),.c (.int .i64 1),.c (.fz (([]:List Val).map encV)),.c (.fz (vals.map encV)),.c (.int .i64 (IntKind.i64.wrap (deep+1)))]) hS (λb hb=>by cases hb) (yaf _)
    (.frz rfl (.refl h.ptr) (.frz rfl (.refl wcw) (.frz rfl (.refl jt) (.frz rfl (.refl jt) (.frz rfl (.c .nil) (.frz rfl (.refl z0) (.frz rfl (.refl jt) .nil)))))))
    (Go.ext (zjy hs hT hb d O hj 1 [] vals jc1 (wio hf) db hdb xs V h _ (by rw[zk O O];omega) hS) (jc2 hS).symm)
theorem jla(hs:SchG s){l:List je}(hT:wj s l=true)(hb:∀x∈l,x.when_.length<=34359738368){k:Nat}(hk:k<s.length)(ev:Int)(old now:List Val)(ho:RowO s[k] old)(hw:RowO s[k] now)(db:List Data)(hdb:DbG BI s db)(xs:List Ce)(V:jb)(h:wt L n s xs db V):
 Ok Tryz.prog 86 [.c (.ptr L.c L.vc 0 0),.c (.fz (l.map zd)),.c (.int .i64 (k:Int)),.c (.int .i64 ev),.c (.fz (old.map encV)),.c (.fz (now.map encV)),.c (.int .i64 0)] V (Done L n s (ja3 s l 6 k ev old now db) V):=
 Ok.run0 mixed za4 gz λhS _=>zjy hs hT hb 6 (yaf _) hk ev old now ho hw db hdb xs V h 0 rfl hS
abbrev Beh:=List Val->Int->List Data->Res
def behI(beh:Beh)(q:Ins):Res:=if q.2.2=0 then beh [] q.2.1 q.1 else([],q.2.2)
def behR(beh:Beh)(r:RowD)(q:Res):Res:=if q.2=0 then beh r.vals r.id q.1 else([],q.2)
def insK(beh:Beh)(s:List wc)(k:Nat)(x:Stmt)(vals:List Val)(db:List Data):Res:=behI beh (insF (chgF s 12) s k (if(x.policy==3)=true then jj (tabN s k) 0 vals else vals) (x.policy==3) db)
def rowK(beh:Beh)(s:List wc)(k:Nat)(x:Stmt)(r:RowD)(db:List Data):Res:=behR beh r (rowJ s k x r db)
def idK(beh:Beh)(s:List wc)(k:Nat)(x:Stmt)(id:Int)(db:List Data):Res:=match jai (jp db k) id with
 |none=>([],-1)
 |some r=>rowK beh s k x r db
def wi3(beh:Beh)(s:List wc)(k:Nat)(x:Stmt)(db:List Data):List (List Data->Res):=if x.kind=1 then x.rows.map λr=>insK beh s k x r.vals else(jv (jp db k) x.wher).1.map λid=>idK beh s k x id
def jen(beh:Beh)(s:List wc)(k:Nat)(x:Stmt)(db:List Data):Ins:=if(jv (jp db k) x.wher).2=true then za3 db x (wi3 beh s k x db) db 0 else(db,8,0)
def nowF(db:List Data)(k:Nat)(id:Int):List Val:=match jai (jp db k) id with|some r=>r.vals|none=>[]
def behT(s:List wc)(l:List je)(k:Nat)(x:Stmt):Beh:=λold id db=>ja3 s l 6 k x.kind old (nowF db k id) db
structure BehK(s:List wc)(k:Nat)(hk:k<s.length)(beh:Beh):Prop where
 keep:∀old id db,RowO s[k] old->DbG BI s db->(beh old id db).2=0->DbG BI s (beh old id db).1
 cod:∀old id db,0<=(beh old id db).2
theorem wgw(h:DbG BI s db){k:Nat}(hk:k<s.length){r:RowD}(hr:r∈jp db k):RowO s[k] r.vals:=⟨.inr ((h.at hk).fit r hr).1,(wd.1 ((h.at hk).fit r hr).2).2⟩
theorem jie(h:DbG BI s db){k:Nat}(hk:k<s.length)(id:Int):RowO s[k] (nowF db k id):=by
 rw[nowF]
 cases hb:jai (jp db k) id with
 |none=>exact jc1
 |some r=>exact wgw h hk (zz hb).1
theorem wie(hs:SchG s){l:List je}(hT:wj s l=true){k:Nat}(hk:k<s.length)(x:Stmt):BehK s k hk (behT s l k x):=⟨λold id db _ h h0=>(zdu hs hT 6).1 hk h h0,λold id db=>(zdu hs hT 6).2⟩
section
variable {s:List wc}(hs:SchG s){k:Nat}{hk:k<s.length}{beh:Beh}(hB:BehK s k hk beh){x:Stmt}
include hs hB
theorem zif(hf:fitF s[k] vals=true){db:List Data}(h:DbG BI s db)(h0:(insK beh s k x vals db).2=0):DbG BI s (insK beh s k x vals db).1:=by
 have hi:=jfk hs hk (x:=x) hf h;rw[insJ]at hi;simp only at hi;rw[insK]at h0⊢;generalize insF (chgF s 12) s k (if(x.policy==3)=true then jj (tabN s k) 0 vals else vals) (x.policy==3) db=q at hi h0⊢;revert h0;rw[behI];split
 ·rename_i h2;exact hB.keep _ _ _ jc1 (hi h2)
 ·rename_i h2;exactλh=>absurd h h2
theorem jjy(hG:StG s[k] x){r:RowD}{db:List Data}(h:DbG BI s db)(hr:r∈jp db k)(h0:(rowK beh s k x r db).2=0):DbG BI s (rowK beh s k x r db).1:=by
 have hi:=jgt hs hk hG h hr;revert h0;rw[rowK,behR];split
 ·rename_i h2;exact hB.keep _ _ _ (wgw h hk hr) (hi h2)
 ·rename_i h2;exactλh=>absurd h h2
theorem zku(hG:StG s[k] x){id:Int}{db:List Data}(h:DbG BI s db)(h0:(idK beh s k x id db).2=0):DbG BI s (idK beh s k x id db).1:=by
 revert h0;rw[idK]
 cases hb:jai (jp db k) id with
 |none=>exactλh=>by cases h
 |some r=>exact jjy hs hB hG h (zz hb).1
end
variable {beh:Beh}
theorem jkn(h:∀old id db,0<=(beh old id db).2){q:Ins}(hq:0<=q.2.2):0<=(behI beh q).2:=by
 rw[behI];split
 ·exact h _ _ _
 ·exact hq
theorem wkn(h:∀old id db,0<=(beh old id db).2){r:RowD}{q:Res}(hq:0<=q.2):0<=(behR beh r q).2:=by
 rw[behR];split
 ·exact h _ _ _
 ·exact hq
theorem wjy(hs:SchG s){l:List je}(hT:wj s l=true)(hb:∀x∈l,x.when_.length<=34359738368){k:Nat}(hk:k<s.length)(x:Stmt)(old:List Val)(ho:RowO s[k] old)(id:Int)(db:List Data)(hdb:DbG BI s db)(xs:List Ce)(V:jb)(h:wt L n s xs db V)(hS:OldS V)(hxo:∀y∈(AV.c (.fp (zg x))).all,Old V.next y):
 Go Tryz.prog V.next jaj.nt jaj.rets (Done L n s (behT s l k x old id db) V) [.code jaj.body]
  (frOf 0 [.c (.ptr L.c L.vc 0 0),.c (.int .i64 (k:Int)),.c (.fz (old.map encV)),.c (.int .i64 id),.c (.fp [.fz (l.map zd)]),.c (.fp (zg x))]) V:=by
 have hk2:k<db.length:=by rw[hdb.len];exact hk
 have hk3:k<xs.length:=by rw[h.len];exact hk2
 have hR:=hdb.rows k hk hk2;have ht:=hs.tab _ (yaa hk);have cf:=zcu h hk2 hk3 id hR.len;have hnw:=jie hdb hk id;have c7:=jla hs hT hb hk x.kind old (nowF db k id) ho hnw db hdb xs V h;have htp:∀y∈(AV.c (.fp [.fz (l.map zd)])).all,Old V.next y:=λy hy=>by
  rw[AV.all,List.mem_singleton]at hy;subst hy;exact jy λc hc=>by rw[List.mem_singleton.1 hc];exact jl (jfm _)
 rw[behT];generalize ja3 s l 6 k x.kind old (nowF db k id) db=q at c7⊢;refine Go.ext ?_ (jc2 hS);repeat' first|refine X ?_|exact yaF|refine yaS ?_ ?_<;>intro _
 refine Go.freezeN (l:=[]) (m:=[(0,[])]) (fr':=[(0,.c (.ptr L.c L.vc 0 0)),(1,.c (.int .i64 (k:Int))),(2,.c (.fz (old.map encV))),(3,.c (.int .i64 id)),(4,.c (.fp [.fz (l.map zd)])),(5,.c (.fp (zg x))),(11,.c (.fz (([]:List Val).map encV))),(14,.c (.ptr L.c L.vc 0 0)),(15,.c (.int .i64 (k:Int))),(16,.c (.int .i64 id))]) hS (λb hb=>by cases hb) (yaf _)
  (.frz rfl (.refl h.ptr) (.frz rfl (.refl jt) (.frz rfl (.refl z0) (.frz rfl (.refl jt) (.frz rfl (.refl htp) (.frz rfl (.refl hxo) (.frz rfl (zer (v:=0) (vals:=[]) (junk:=[])) (.frz rfl (.refl h.ptr) (.frz rfl (.refl jt) (.frz rfl (.refl jt) .nil)))))))))) ?_
 rw[jc2 hS];rw[nowF,we hk2]at c7;rcases zj db[k].rows id with⟨hx1,hx2⟩|⟨j,hj,hx1,hx2⟩
 ·rw[hx2]at c7;refine .call _ rfl rfl rfl (cf.1 hx2) ?_;rintro r9 V9 ⟨hr9,ht9⟩;rw[hr9,ht9];repeat' first|refine X ?_|exact yaF|refine yaS ?_ ?_<;>intro _
  refine .call _ rfl rfl rfl c7 ?_;rintro r9 V9 ⟨hr9,hk9,hq9⟩;rw[hr9];repeat' first|refine X ?_|exact yaF|refine yaS ?_ ?_<;>intro _
  exact .ret rfl ⟨rfl,hk9,hq9⟩
 ·rw[hx2]at c7;simp only at c7;obtain⟨hfl,hfv⟩:=hR.fit _ (yaa hj);have hne:db[k].rows[j].vals≠[]:=λe=>by
   rw[e]at hfl;have:=ht.cols0;simp at hfl;omega
  obtain⟨lab2,ps2,id2,v2,junk2,hat,hl2⟩:=h.any hk2 hk3;refine .call _ rfl rfl rfl (cf.2 j hj hx1 _ _ _ _ _ hat) ?_;rintro r9 V9 ⟨hr9,ht9⟩;rw[hr9,ht9];clear hr9 ht9;have cm:=Lend.made (.own (hat.frz hj) .nil) (jah db[k].rows[j].vals hne (yai (wd.1 hfv).1 gb)) λe he=>(jb5 e he).2;repeat' first|refine X ?_|((first|apply yG|apply yH|apply yI);exact rfl;(first|exact j5 rfl hat.get (hat.at hj) (yal _)))|exact yaF|refine yaS ?_ ?_<;>intro _
  refine .call _ rfl rfl rfl cm ?_;rintro q9 V9 ⟨v,junk,hjk,hq9,ht9⟩;rw[hq9,ht9];clear hq9 ht9 cm
  refine Go.freezeN (l:=[]) (m:=[(v,db[k].rows[j].vals.map encV++junk)]) (fr':=[(0,.c (.ptr L.c L.vc 0 0)),(1,.c (.int .i64 (k:Int))),(2,.c (.fz (old.map encV))),(3,.c (.int .i64 id)),(4,.c (.fp [.fz (l.map zd)])),(5,.c (.fp (zg x))),(24,.c (.fz (db[k].rows[j].vals.map encV)))]) hS (λb hb=>by cases hb) (yaf _)
   (.frz rfl (.refl h.ptr) (.frz rfl (.refl jt) (.frz rfl (.refl z0) (.frz rfl (.refl jt) (.frz rfl (.refl htp) (.frz rfl (.refl hxo) (.frz rfl zer .nil))))))) ?_
  rw[jc2 hS];repeat' first|refine X ?_|exact yaF|refine yaS ?_ ?_<;>intro _
  refine .call _ rfl rfl rfl c7 ?_;rintro r9 V9 ⟨hr9,hk9,hq9⟩;rw[hr9];repeat' first|refine X ?_|exact yaF|refine yaS ?_ ?_<;>intro _
  exact .ret rfl ⟨rfl,hk9,hq9⟩
structure BehG(s:List wc)(k:Nat)(hk:k<s.length)(f:Nat)(cap:List Ce)(beh:Beh):Prop where
 ok:BehK s k hk beh
 run:∀(L:ChL) (n:Nat) (old:List Val),RowO s[k] old->∀o,(o=Ce.fz (old.map encV)\/(o=.nils/\old=[]))->∀(id:Int) (db:List Data),DbG BI s db->∀(xs:List Ce) (V:jb),wt L n s xs db V->Ok Tryz.prog f (([]:List Ce).map .c++[.c (.ptr L.c L.vc 0 0),.c (.int .i64 (k:Int)),.c o,.c (.int .i64 id)]++cap.map .c) V (Done L n s (beh old id db) V)
theorem zjz(hs:SchG s){l:List je}(hT:wj s l=true)(hb:∀x∈l,x.when_.length<=34359738368){k:Nat}(hk:k<s.length)(x:Stmt):BehG s k hk 83 [.fp [.fz (l.map zd)],.fp (zg x)] (behT s l k x):=by
 refine⟨wie hs hT hk x,λL n old ho o hoc id db hdb xs V h=>?_⟩;refine Ok.run0 mixed zcl gz λhS hA=>?_;have hxo:∀y∈(AV.c (.fp (zg x))).all,Old V.next y:=hA _ gx;have htp:∀y∈(AV.c (.fp [.fz (l.map zd)])).all,Old V.next y:=hA _ gx;clear hA;have hg:=wjy hs hT hb hk x old ho id db hdb xs V h hS hxo;rcases hoc with rfl|⟨rfl,rfl⟩
 ·exact hg
 ·refine Go.ext ?_ (jc2 hS)
  exact Go.freezeN (l:=[]) (m:=[]) (fr':=frOf 0 [.c (.ptr L.c L.vc 0 0),.c (.int .i64 (k:Int)),.c (.fz (([]:List Val).map encV)),.c (.int .i64 id),.c (.fp [.fz (l.map zd)]),.c (.fp (zg x))]) hS (λb hb=>by cases hb) (yaf _)
   (.frz rfl (.refl h.ptr) (.frz rfl (.refl jt) (.frz rfl (.c .nil) (.frz rfl (.refl jt) (.frz rfl (.refl htp) (.frz rfl (.refl hxo) .nil))))))
   (Go.ext hg (jc2 hS).symm)
theorem jjz(hs:SchG s){k:Nat}(hk:k<s.length){f:Nat}{cap:List Ce}{beh:Beh}(hB:BehG s k hk f cap beh)(x:Stmt)(r:RowD)(hf:fitF s[k] r.vals=true)(db:List Data)(hdb:DbG BI s db)(xs:List Ce)(V:jb)(h:wt L n s xs db V):
 Ok Tryz.prog 279 [.c (.ptr L.c L.vc 0 0),.c (.fp [.int .i64 (k:Int)]),.c (.fp (jc r)),.c (.fp [.bool (x.policy==3)]),.c (.fp [.fn f [] cap])] V (Done L n s (insK beh s k x r.vals db) V):=by
 refine Ok.run0 mixed wba gz λhS hA=>?_;clear hS hA;have hva:=za9 hf (hs.tab _ (yaa hk)).cols8;have c1:=zfj hs hk r.vals (x.policy==3) db rfl xs V h (jfj hdb hk) (j6 hf).1 hva;have hi:=jfk hs hk (x:=x) hf hdb;rw[insJ,zn hk]at hi;simp only at hi;rw[insK,zn hk];generalize insF (chgF s 12) s k (if(x.policy==3)=true then jj s[k] 0 r.vals else r.vals) (x.policy==3) db=q at c1 hi⊢;obtain⟨qd,qi,qc⟩:=q;repeat' first|refine X ?_|exact yaF|refine yaS ?_ ?_<;>intro _
 refine .call _ rfl rfl rfl c1 ?_;rintro r9 V2 ⟨hr9,hk2,hq2⟩;rw[hr9];simp only at hq2 hi⊢;clear hr9 c1;rw[behI];by_cases h0:qc=0
 ·subst h0;rw[if_pos rfl];obtain⟨xs2,hH2⟩:=hq2 rfl;repeat' first|refine X ?_|exact yaF|refine yaS ?_ ?_<;>intro _
  refine .call _ rfl rfl rfl (hB.run L n [] jc1 .nils (.inr ⟨rfl,rfl⟩) qi qd (hi rfl) xs2 V2 hH2) ?_;rintro r9 V3 ⟨hr9,hk3,hq3⟩;rw[hr9];repeat' first|refine X ?_|exact yaF|refine yaS ?_ ?_<;>intro _
  exact .ret rfl ⟨rfl,hk2.trans hk3,hq3⟩
 ·rw[if_neg h0];repeat' first|refine X ?_|exact yaF|refine yaS ?_ ?_<;>intro _
  all_goals first
   |contradiction
   |exact .ret rfl ⟨rfl,hk2,λh=>absurd h h0⟩
set_option maxHeartbeats 1000000 in
theorem wjz(hs:SchG s){k:Nat}(hk:k<s.length){f:Nat}{cap:List Ce}{beh:Beh}(hB:BehG s k hk f cap beh)(x:Stmt)(hG:StG s[k] x)(id:Int)(db:List Data)(hdb:DbG BI s db)(xs:List Ce)(V:jb)(h:wt L n s xs db V):
 Ok Tryz.prog 280 [.c (.ptr L.c L.vc 0 0),.c (.fp [.int .i64 (k:Int)]),.c (.fp [.int .i64 id]),.c (.fp (zg x)),.c (.fp [.fz (s.map ja)]),.c (.fp [.bool (x.policy==3)]),.c (.fp [.fn f [] cap])] V (Done L n s (idK beh s k x id db) V):=by
 refine Ok.run0 mixed zbb gz λhS hA=>?_;have hk2:k<db.length:=by rw[hdb.len];exact hk
 have hk3:k<xs.length:=by rw[h.len];exact hk2
 have hR:=hdb.rows k hk hk2;have ht:=hs.tab _ (yaa hk);have cf:=zcu h hk2 hk3 id hR.len;have hrun:=jim (I:=BI) (L:=L) (n:=n) hs 13 0 gb rfl;rw[idK,we hk2];repeat' first|refine X ?_|exact yaF|refine yaS ?_ ?_<;>intro _
 rcases zj db[k].rows id with⟨hx1,hx2⟩|⟨j,hj,hx1,hx2⟩
 ·rw[hx2];refine .call _ rfl rfl rfl (cf.1 hx2) ?_;rintro r9 V9 ⟨hr9,ht9⟩;rw[hr9,ht9];repeat' first|refine X ?_|exact yaF|refine yaS ?_ ?_<;>intro _
  exact .ret rfl ⟨rfl,.refl,λh=>by cases h⟩
 ·rw[hx2];show Go _ _ _ _ (Done L n s (rowK beh s k x db[k].rows[j] db) V) _ _ _;have hrj:=jgt hs hk hG hdb (r:=db[k].rows[j]) (by rw[we hk2];exact yaa hj);have hfo:=wgw hdb hk (r:=db[k].rows[j]) (by rw[we hk2];exact yaa hj);have hrow:jai (jp db k) id=some db[k].rows[j]:=by rw[we hk2];exact hx2
  have hid:db[k].rows[j].id=id:=(zz hrow).2;obtain⟨hfl,hfv⟩:=hR.fit _ (yaa hj);have hne:db[k].rows[j].vals≠[]:=λe=>by
   rw[e]at hfl;have:=ht.cols0;simp at hfl;omega
  obtain⟨lab2,ps2,id2,v2,junk2,hat,hl2⟩:=h.any hk2 hk3;refine .call _ rfl rfl rfl (cf.2 j hj hx1 _ _ _ _ _ hat) ?_;rintro r9 V9 ⟨hr9,ht9⟩;rw[hr9,ht9];clear hr9 ht9;have cm:=Lend.made (.own (hat.frz hj) .nil) (jah db[k].rows[j].vals hne (yai (wd.1 hfv).1 gb)) λe he=>(jb5 e he).2;repeat' first|refine X ?_|((first|apply yG|apply yH|apply yI);exact rfl;(first|exact j5 rfl hat.get (hat.at hj) (yal _)))|exact yaF|refine yaS ?_ ?_<;>intro _
  refine .call _ rfl rfl rfl cm ?_;rintro q V9 ⟨v,junk,hjk,hq9,ht9⟩;rw[hq9,ht9];clear hq9 ht9 cm;repeat' first|refine X ?_|fail
  refine Go.freezeN (l:=[]) (m:=[(v,db[k].rows[j].vals.map encV++junk)]) (fr':=[(0,.c (.ptr L.c L.vc 0 0)),(1,.c (.fp [.int .i64 (k:Int)])),(2,.c (.fp [.int .i64 id])),(3,.c (.fp (zg x))),(4,.c (.fp [.fz (s.map ja)])),(5,.c (.fp [.bool (x.policy==3)])),(6,.c (.fp [.fn f [] cap])),(10,.c (.fz (db[k].rows[j].vals.map encV))),(11,.c (.int .i64 8)),(27,.c (.bool (x.kind==3)))]) hS (λb hb=>by cases hb) (yaf _)
   (.frz rfl (.refl (hA _ gx)) (.frz rfl (.refl (hA _ gx)) (.frz rfl (.refl (hA _ gx)) (.frz rfl (.refl (hA _ gx)) (.frz rfl (.refl (hA _ gx)) (.frz rfl (.refl (hA _ gx)) (.frz rfl (.refl (hA _ gx)) (.frz rfl (wbm (k:=0) rfl (yaf _)) (.frz rfl (.refl zu) (.frz rfl (.refl zh4) .nil)))))))))) ?_
  rw[jc2 hS];rw[rowK];rw[rowJ]at hrj⊢;by_cases h3:x.kind=3
  ·rw[if_pos h3,hid]at hrj⊢;rw[beq_iff_eq.2 h3];have c5:=hrun.del k id db xs V h hdb hk;generalize chgF s 13 (.del k id) db=q at c5 hrj⊢;rw[behR,hid];repeat' first|refine X ?_|exact yaF|refine yaS ?_ ?_<;>intro _
   refine .call _ rfl rfl rfl c5 ?_;rintro r9 V9 ⟨hr9,hk9,hq9⟩;rw[hr9];clear hr9 c5;by_cases hq:q.2=0
   ·rw[if_pos hq,hq];obtain⟨xs9,hH9⟩:=hq9 hq;repeat' first|refine X ?_|exact yaF|refine yaS ?_ ?_<;>intro _
    refine .call _ rfl rfl rfl (hB.run L n db[k].rows[j].vals hfo _ (.inl rfl) id q.1 (hrj hq) xs9 V9 hH9) ?_;rintro r9 V8 ⟨hr9,hk8,hq8⟩;rw[hr9];repeat' first|refine X ?_|exact yaF|refine yaS ?_ ?_<;>intro _
    exact .ret rfl ⟨rfl,hk9.trans hk8,hq8⟩
   ·rw[if_neg hq];generalize hqe:q.2=e at hq⊢;repeat' first|refine X ?_|exact yaF|refine yaS ?_ ?_<;>intro _
    all_goals first
     |contradiction
     |exact .ret rfl ⟨rfl,hk9,λh=>absurd h hq⟩
  ·rw[if_neg h3,zn hk]at hrj⊢;rw[beq_eq_false_iff_ne.2 h3];have c3:=wf8 s[k] x db[k].rows[j].vals hfl hne hfv hG.sets.1 hG.sets.2
   cases hvf:wa1 s[k] db[k].rows[j].vals x.sets db[k].rows[j].vals with
   |none=>
    rw[hvf]at c3;have c3:Pure _ _ _ (.tup [.c .nils,.c (.bool false)]):=c3;show Go _ _ _ _ (Done L n s ([],8) V) _ _ _;repeat' first|refine X ?_|((first|apply yG|apply yH|apply yI);exact rfl;(first|exact yax ja rfl hk))|refine yaC (c3) ?_|exact yaF|refine yaS ?_ ?_<;>intro _
    exact .ret rfl ⟨rfl,.refl,λh=>by cases h⟩
   |some nv=>
    rw[hvf]at c3;have c3:Pure _ _ _ (.tup [.c (.fz (nv.map encV)),.c (.bool true)]):=c3;have hl2':nv.length=s[k].cols.length:=(jcv hvf).trans hfl;have hok2:zq nv 16=true:=wd.2 ⟨by rw[hl2',<-hfl];exact(wd.1 hfv).1,wcv (wd.1 hfv).2 (n:=s[k].cols.length) (by rw[hfl]) hG.sets.2 (wd.1 hfv).2 hvf⟩;have c5:=hrun.upd k id nv (x.policy==3) db xs V h hdb ⟨hk,hl2',hok2⟩;rw[hvf,hid]at hrj;rw[hid];show Go _ _ _ _ (Done L n s (behR beh db[k].rows[j] (chgF s 13 (.upd k id nv (x.policy==3)) db)) V) _ _ _;have hrj:(chgF s 13 (.upd k id nv (x.policy==3)) db).2=0->DbG BI s (chgF s 13 (.upd k id nv (x.policy==3)) db).1:=hrj;generalize chgF s 13 (.upd k id nv (x.policy==3)) db=q at c5 hrj⊢;rw[behR,hid];repeat' first|refine X ?_|((first|apply yG|apply yH|apply yI);exact rfl;(first|exact yax ja rfl hk))|refine yaC (c3) ?_|exact yaF|refine yaS ?_ ?_<;>intro _
    refine .call _ rfl rfl rfl c5 ?_;rintro r9 V9 ⟨hr9,hk9,hq9⟩;rw[hr9];clear hr9 c5;by_cases hq:q.2=0
    ·rw[if_pos hq,hq];obtain⟨xs9,hH9⟩:=hq9 hq;repeat' first|refine X ?_|exact yaF|refine yaS ?_ ?_<;>intro _
     refine .call _ rfl rfl rfl (hB.run L n db[k].rows[j].vals hfo _ (.inl rfl) id q.1 (hrj hq) xs9 V9 hH9) ?_;rintro r9 V8 ⟨hr9,hk8,hq8⟩;rw[hr9];repeat' first|refine X ?_|exact yaF|refine yaS ?_ ?_<;>intro _
     exact .ret rfl ⟨rfl,hk9.trans hk8,hq8⟩
    ·rw[if_neg hq];generalize hqe:q.2=e at hq⊢;repeat' first|refine X ?_|exact yaF|refine yaS ?_ ?_<;>intro _
     all_goals first
      |contradiction
      |exact .ret rfl ⟨rfl,hk9,λh=>absurd h hq⟩
def jd7(B:Ce)(k:Nat)(x:Stmt)(r:RowD):Ce:=.fn 279 [] [.fp [.int .i64 (k:Int)],.fp (jc r),.fp [.bool (x.policy==3)],.fp [B]]
def wd7(B:Ce)(s:List wc)(k:Nat)(x:Stmt)(id:Int):Ce:=.fn 280 [] [.fp [.int .i64 (k:Int)],.fp [.int .i64 id],.fp (zg x),.fp [.fz (s.map ja)],.fp [.bool (x.policy==3)],.fp [B]]
variable {k:Nat}{x:Stmt}
theorem zj0{B:Ce}{r:RowD}(hB:Old n B):Old n (jd7 B k x r):=by
 refine .fn _ _ _ (λi hi=>absurd hi (Nat.not_lt_zero i)) λi hi=>?_;have h:∀c∈[Ce.fp [.int .i64 (k:Int)],.fp (jc r),.fp [.bool (x.policy==3)],.fp [B]],Old n c:=λc hc=>by
  simp only[List.mem_cons,List.not_mem_nil,or_false]at hc;rcases hc with rfl|rfl|rfl|rfl
  ·exact jy λc hc=>by rw[List.mem_singleton.1 hc];exact .int _ _
  ·refine jy λc hc=>?_;simp only[jc,List.mem_cons,List.not_mem_nil,or_false]at hc;rcases hc with rfl|rfl
   ·exact .int _ _
   ·exact z0 _ (List.mem_singleton.2 rfl)
  ·exact jy λc hc=>by rw[List.mem_singleton.1 hc];exact .bool _
  ·exact jy λc hc=>by rw[List.mem_singleton.1 hc];exact hB
 exact h _ (yaa hi)
theorem jj0{B:Ce}{id:Int}(hB:Old n B)(hx:∀c∈zg x,Old n c):Old n (wd7 B s k x id):=by
 refine .fn _ _ _ (λi hi=>absurd hi (Nat.not_lt_zero i)) λi hi=>?_;have h:∀c∈[Ce.fp [.int .i64 (k:Int)],.fp [.int .i64 id],.fp (zg x),.fp [.fz (s.map ja)],.fp [.bool (x.policy==3)],.fp [B]],Old n c:=λc hc=>by
  simp only[List.mem_cons,List.not_mem_nil,or_false]at hc;rcases hc with rfl|rfl|rfl|rfl|rfl|rfl
  ·exact jy λc hc=>by rw[List.mem_singleton.1 hc];exact .int _ _
  ·exact jy λc hc=>by rw[List.mem_singleton.1 hc];exact .int _ _
  ·exact jy hx
  ·exact jy λc hc=>by rw[List.mem_singleton.1 hc];exact zas _ (List.mem_singleton.2 rfl)
  ·exact jy λc hc=>by rw[List.mem_singleton.1 hc];exact .bool _
  ·exact jy λc hc=>by rw[List.mem_singleton.1 hc];exact hB
 exact h _ (yaa hi)
variable {f:Nat}{cap:List Ce}
theorem wj0(x:Stmt)(hx:x.kind=1)(hidx:idxA (λu:wc=>u.name==x.table) s 0=(k:Int))(hr8:x.rows.length<=8)(hs5:s.length<=5)(db:List Data):
 Pure Tryz.prog 185 [.agg (zg x),.c (.fz (s.map ja)),.c (.fz (db.map wa)),.c (.fn f [] cap)] (.tup [.c (.fz (x.rows.map λr=>[jd7 (.fn f [] cap) k x r])),.c (.bool true)]):=by
 refine yar jag λG hS hA=>?_;have hBo:Old G.next (.fn f [] cap):=hA (.c (.fn f [] cap)) gx _ (by simp[AV.all]);clear hA hS;have c1:=jae s x.table (yai hs5 gb);rw[hidx]at c1;have hx1:(x.kind==1)=true:=beq_iff_eq.2 hx;repeat' first|refine X ?_|refine yaC (c1) ?_|exact yaF|refine yaS ?_ ?_<;>intro _
 all_goals first
  |contradiction
  |skip
 refine Go.keep [7,10,11,12,31,32,33] (Go.loops (I:=λm fr V=>∃(i:Nat) (ki:Int) (v:Nat) (junk:List (List Ce)),m=x.rows.length-i/\i<=x.rows.length/\ki=i/\Jk 1 junk/\
  fr=[(7,.c (.fp [.fn f [] cap])),(10,.c (.fp [.int .i64 (k:Int)])),(11,.c (.fp [.bool (x.policy==3)])),(12,.c (vec (G.next+0) v ((x.rows.take i).map λr=>[jd7 (.fn f [] cap) k x r]) junk)),(31,.c (.fz (x.rows.map jc))),(32,.c (.int .i64 (x.rows.length:Int))),(33,.c (.int .i64 ki))]/\V=E G [(v,((x.rows.take i).map λr=>[jd7 (.fn f [] cap) k x r])++junk)]) ?_ _ _ _ ⟨0,_,0,[],rfl,yac _,rfl,Jk.nil,rfl,rfl⟩)
 rintro m fr V ⟨i,ki,v,junk,rfl,hi,hki,hj,rfl,rfl⟩ hrec;by_cases hlt:i<x.rows.length
 ·have hys:∀e∈(x.rows.take i).map λr=>[jd7 (.fn f [] cap) k x r],e.length=1:=λe he=>by
   obtain⟨a,_,rfl⟩:=List.mem_map.1 he
   rfl
  have hbd:(((x.rows.take i).map λr=>[jd7 (.fn f [] cap) k x r]).length+1)*8<=140737488355328:=by rw[yae,yat];omega
  have e1:((x.rows.take i).map λr=>[jd7 (.fn f [] cap) k x r])++[[jd7 (.fn f [] cap) k x x.rows[i]]]=(x.rows.take (i+1)).map λr=>[jd7 (.fn f [] cap) k x r]:=by rw[yaj hlt,yak];rfl
  repeat' first|refine X ?_|((first|apply yG|apply yH|apply yI);exact rfl;(first|exact yax jc hki hlt))|(apply Go.app1;exact rfl;exact rfl;exact rfl;exact rfl;exact rfl;exact hys;exact hj;exact rfl;exact hbd;intro v' junk' hj')|exact yaF|refine yaS ?_ ?_<;>intro _
  refine Go.keep [7,10,11,12,31,32,33] (hrec _ _ _ O ⟨i+1,_,v',junk',rfl,hlt,wb hki O,hj', ?_, ?_⟩)
  ·rw[<-e1];rfl
  ·rw[<-e1];rfl
 ·rw[yao O];repeat' first|refine X ?_|exact yaF|refine yaS ?_ ?_<;>intro _
  exact .ret rfl ⟨_,rfl,jeq (V:=G) λe he c hc=>by
   obtain⟨a,_,rfl⟩:=List.mem_map.1 he;rw[List.mem_singleton.1 hc];exact zj0 hBo⟩
theorem zj1(x:Stmt)(hx:¬x.kind=1)(hidx:idxA (λu:wc=>u.name==x.table) s 0=(k:Int))(hs5:s.length<=5)(hw:x.wher.length<=24)(db:List Data)(hk:k<db.length)(hl:db[k].rows.length<=60)(hv:∀r∈db[k].rows,r.vals.length<=34359738368):
 Pure Tryz.prog 185 [.agg (zg x),.c (.fz (s.map ja)),.c (.fz (db.map wa)),.c (.fn f [] cap)] (.tup [.c (.fz ((jv db[k].rows x.wher).1.map λid=>[wd7 (.fn f [] cap) s k x id])),.c (.bool (jv db[k].rows x.wher).2)]):=by
 refine yar jag λG hS hA=>?_;have hxo:∀c∈zg x,Old G.next c:=λc hc=>hA (.agg (zg x)) gx c hc;have hBo:Old G.next (.fn f [] cap):=hA (.c (.fn f [] cap)) gx _ (by simp[AV.all]);clear hA hS;have c1:=jae s x.table (yai hs5 gb);rw[hidx]at c1;have c2:=NewV.pure (wfc db[k].rows x.wher (yai hl gb) hv (yai hw gb));have hml:=wb5 (l:=db[k].rows) (w:=x.wher);generalize jv db[k].rows x.wher=mf at c2 hml⊢;obtain⟨ids,b⟩:=mf;simp only at c2 hml⊢;have hx1:(x.kind==1)=false:=beq_eq_false_iff_ne.2 hx;repeat' first|refine X ?_|((first|apply yG|apply yH|apply yI);exact rfl;(first|exact yax wa rfl hk))|refine yaC (c1) ?_|refine yaC (c2) ?_|exact yaF|refine yaS ?_ ?_<;>intro _
 all_goals first
  |contradiction
  |skip
 refine Go.keep [4,5,7,10,11,12,16,54,55,56] (Go.loops (I:=λm fr V=>∃(i:Nat) (ki:Int) (v:Nat) (junk:List (List Ce)),m=ids.length-i/\i<=ids.length/\ki=i/\Jk 1 junk/\
  fr=[(4,.c (.fp (zg x))),(5,.c (.fp [.fz (s.map ja)])),(7,.c (.fp [.fn f [] cap])),(10,.c (.fp [.int .i64 (k:Int)])),(11,.c (.fp [.bool (x.policy==3)])),(12,.c (vec (G.next+0) v ((ids.take i).map λid=>[wd7 (.fn f [] cap) s k x id]) junk)),(16,.c (.bool b)),(54,.c (.fz (ids.map encI))),(55,.c (.int .i64 (ids.length:Int))),(56,.c (.int .i64 ki))]/\V=E G [(v,((ids.take i).map λid=>[wd7 (.fn f [] cap) s k x id])++junk)]) ?_ _ _ _ ⟨0,_,0,[],rfl,yac _,rfl,Jk.nil,rfl,rfl⟩)
 rintro m fr V ⟨i,ki,v,junk,rfl,hi,hki,hj,rfl,rfl⟩ hrec;by_cases hlt:i<ids.length
 ·have hys:∀e∈(ids.take i).map λid=>[wd7 (.fn f [] cap) s k x id],e.length=1:=λe he=>by
   obtain⟨a,_,rfl⟩:=List.mem_map.1 he
   rfl
  have hbd:(((ids.take i).map λid=>[wd7 (.fn f [] cap) s k x id]).length+1)*8<=140737488355328:=by rw[yae,yat];omega
  have e1:((ids.take i).map λid=>[wd7 (.fn f [] cap) s k x id])++[[wd7 (.fn f [] cap) s k x ids[i]]]=(ids.take (i+1)).map λid=>[wd7 (.fn f [] cap) s k x id]:=by rw[yaj hlt,yak];rfl
  repeat' first|refine X ?_|((first|apply yG|apply yH|apply yI);exact rfl;(first|exact yax encI hki hlt))|(apply Go.app1;exact rfl;exact rfl;exact rfl;exact rfl;exact rfl;exact hys;exact hj;exact rfl;exact hbd;intro v' junk' hj')|exact yaF|refine yaS ?_ ?_<;>intro _
  refine Go.keep [4,5,7,10,11,12,16,54,55,56] (hrec _ _ _ O ⟨i+1,_,v',junk',rfl,hlt,wb hki O,hj', ?_, ?_⟩)
  ·rw[<-e1];rfl
  ·rw[<-e1];rfl
 ·rw[yao O];repeat' first|refine X ?_|exact yaF|refine yaS ?_ ?_<;>intro _
  exact .ret rfl ⟨_,rfl,jeq (V:=G) λe he c hc=>by
   obtain⟨a,_,rfl⟩:=List.mem_map.1 he;rw[List.mem_singleton.1 hc];exact jj0 hBo hxo⟩
set_option maxHeartbeats 4000000 in
theorem zip(hs:SchG s)(x:Stmt)(db:List Data)(hdb:DbG BI s db)(J:List (Ce×(List Data->Res)))(hJ:∀p∈J,JobG s p.1 p.2)(hJl:J.length<=60)(b:Bool)
 (hj:Pure Tryz.prog 185 [.agg (zg x),.c (.fz (s.map ja)),.c (.fz (db.map wa)),.c (.fn f [] cap)] (.tup [.c (.fz (J.map λp=>[p.1])),.c (.bool b)])) (G:jb):
 Ok Tryz.prog 82 [.c (.fz (s.map ja)),.c (.fz (db.map wa)),.agg (zg x),.c (.fn f [] cap)] G (NewV G (insV (if b=true then za3 db x (J.map (·.2)) db 0 else(db,8,0)))):=by
 refine Ok.newV (Ok.run0 mixed wc7 gz λhS hA=>?_);clear hS hA
 cases b
 ·rw[if_neg yah];repeat' first|refine X ?_|refine yaC (hj) ?_|exact yaF|refine yaS ?_ ?_<;>intro _
  refine .call _ rfl rfl rfl (zbk hs hdb G) ?_;rintro r9 V1 ⟨hK,y,hr9,hh⟩;rw[hr9];repeat' first|refine X ?_|exact yaF|refine yaS ?_ ?_<;>intro _
  exact .ret rfl ⟨hK,.three hh⟩
 ·rw[if_pos rfl];repeat' first|refine X ?_|refine yaC (hj) ?_|exact yaF|refine yaS ?_ ?_<;>intro _
  refine .call _ rfl rfl rfl (zbk hs hdb G) ?_;rintro r9 V1 ⟨hK1,y1,hr9,hh1⟩;rw[hr9];clear hr9 hj;repeat' first|refine X ?_|exact yaF|refine yaS ?_ ?_<;>intro _
  refine Go.keep [0,1,6,13,14,33,34,35] (Go.loops (I:=λm fr V=>∃(i:Nat) (ki:Int) (now:List Data) (mc:Nat) (km:Int) (y:Ce),m=J.length-i/\i<=J.length/\ki=i/\(DbG BI s now/\mc<=i/\km=mc/\Kept G.next G V/\Has V (λa=>G.next<=a/\a<V.next) (.fz (now.map wa)) y/\za3 db x (J.map (·.2)) db 0=za3 db x ((J.drop i).map (·.2)) now km)/\
   fr=[(0,.c (.fz (s.map ja))),(1,.c (.fz (db.map wa))),(6,.c (.fp (zg x))),(13,.c y),(14,.c (.int .i64 km)),(33,.c (.fz (J.map λp=>[p.1]))),(34,.c (.int .i64 (J.length:Int))),(35,.c (.int .i64 ki))]) ?_ _ _ _ ⟨0,_,db,0,_,y1,rfl,yac _,rfl,⟨hdb,yaf _,rfl,hK1,hh1,rfl⟩,rfl⟩)
  clear hh1 hK1;rintro m fr V ⟨i,ki,now,mc,km,y,rfl,hi,hki,⟨hnow,hmc,hkm,hK,hh,hst⟩,rfl⟩ hrec;by_cases hlt:i<J.length
  ·have hw1:IntKind.i64.wrap (km+1)=km+1:=zk O O;have hJi:=hJ _ (yaa hlt);have hkp:(J[i].2 now).2=0->DbG BI s (J[i].2 now).1:=let⟨_,_,_,_,h⟩:=hJi;h now hnow
   have cc:=Lend.new (.same (.own (HasV.c hh).lend (.same .nil))) (wfk hs hnow hJi);rw[yab hlt,ybv,za3]at hst;generalize J[i].2 now=q at cc hkp hst;have hn0:G.next<=V.next:=hK.next;repeat' first|refine X ?_|((first|apply yG|apply yH|apply yI);exact rfl;(first|exact yX (enc:=λp:Ce×(List Data->Res)=>[p.1]) rfl rfl hki hlt rfl))|exact yaF|refine yaS ?_ ?_<;>intro _
   refine .call _ rfl rfl rfl cc ?_;rintro r9 V2 hq9;obtain⟨g,hr9,gr,hg⟩:=whg (.int _ _) hq9;rw[hr9];clear hr9 hq9 cc;have hK2:=hK.trans (.ofGr gr hK.next);have hh2:=(hh.frame λa ha=>gr.lt ha.2).mono (S':=λa=>G.next<=a/\a<V2.next) λa ha=>⟨ha.1,yay ha.2 gr.next⟩;have hg2:=hg.mono (S':=λa=>G.next<=a/\a<V2.next) λa ha=>⟨yai hK.next ha.1,ha.2⟩;have hn2:G.next<=V2.next:=hK2.next;clear hg hh gr hK;by_cases hq:q.2=0
   ·rw[if_pos hq,<-hw1]at hst;rw[topR,if_pos hq]at hg2;rw[topR,if_pos hq];repeat' first|refine X ?_|exact yaF|refine yaS ?_ ?_<;>intro _
    all_goals first
     |contradiction
     |exact Go.keep [0,1,6,13,14,33,34,35] (hrec _ _ _ O ⟨i+1,_,q.1,mc+1,_,g,rfl,hlt,wb hki O,⟨hkp hq,O,wb hkm O,hK2,hg2,hst⟩,rfl⟩)
   ·obtain⟨e,he⟩:∃e,q.2=e:=⟨_,rfl⟩;rw[if_neg hq,he]at hst;rw[topR,if_neg hq,he];rw[he]at hq;clear hg2;have c4:=zhm x e;by_cases hm:e=-1
    ·rw[if_pos (.inl hm)]at hst;subst hm;repeat' first|refine X ?_|refine yaC (c4) ?_|exact yaF|refine yaS ?_ ?_<;>intro _
     all_goals first
      |contradiction
      |exact Go.keep [0,1,6,13,14,33,34,35] (hrec _ _ _ O ⟨i+1,_,now,mc,_,y,rfl,hlt,wb hki O,⟨hnow,O,hkm,hK2,hh2,hst⟩,rfl⟩)
    ·cases hp:ji3 x e
     ·rw[hp]at c4 hst;rw[if_neg (λh=>by rcases h with h|h;exact hm h;cases h)]at hst;by_cases hp1:x.policy=1/\¬e=5
      ·rw[if_pos hp1]at hst;obtain⟨hp1,h5⟩:=hp1;rw[hst];repeat' first|refine X ?_|refine yaC (c4) ?_|exact yaF|refine yaS ?_ ?_<;>intro _
       all_goals first
        |contradiction
        |exact .ret rfl ⟨hK2,.three hh2⟩
      ·rw[if_neg hp1]at hst;rw[hst];repeat' first|refine X ?_|refine yaC (c4) ?_|exact yaF|refine yaS ?_ ?_<;>intro _
       all_goals first
        |(exfalso;simp_all;done)
        |skip
       all_goals refine .call _ rfl rfl rfl (zbk hs hdb V2) ?_
       all_goals rintro r9 V3 ⟨hK3,y3,hr9,hh3⟩
       all_goals rw[hr9]
       all_goals repeat' first|refine X ?_|exact yaF|refine yaS ?_ ?_<;>intro _
       all_goals exact .ret rfl ⟨hK2.trans (hK3.mono hn2),.three (hh3.mono λa ha=>⟨yai hn2 ha.1,ha.2⟩)⟩
     ·rw[hp]at c4 hst;rw[if_pos (.inr rfl)]at hst;repeat' first|refine X ?_|refine yaC (c4) ?_|exact yaF|refine yaS ?_ ?_<;>intro _
      all_goals first
       |contradiction
       |exact Go.keep [0,1,6,13,14,33,34,35] (hrec _ _ _ O ⟨i+1,_,now,mc,_,y,rfl,hlt,wb hki O,⟨hnow,O,hkm,hK2,hh2,hst⟩,rfl⟩)
  ·rw[yad O,List.map_nil,za3]at hst;rw[hst];repeat' first|refine X ?_|exact yaF|refine yaS ?_ ?_<;>intro _
   exact .ret rfl ⟨hK,.three hh⟩
theorem zko(hs:SchG s){k:Nat}(hk:k<s.length)(hB:BehG s k hk f cap beh)(x:Stmt)(hG:StG s[k] x)(hidx:idxA (λu:wc=>u.name==x.table) s 0=(k:Int))(db:List Data)(hdb:DbG BI s db)(G:jb):
 Ok Tryz.prog 82 [.c (.fz (s.map ja)),.c (.fz (db.map wa)),.agg (zg x),.c (.fn f [] cap)] G (NewV G (insV (jen beh s k x db))):=by
 have hk2:k<db.length:=by rw[hdb.len];exact hk
 have hR:=hdb.rows k hk hk2;by_cases hx:x.kind=1
 ·have hj:=wj0 (f:=f) (cap:=cap) x hx hidx hG.rows.1 hs.few db;have h1:=zip hs x db hdb (x.rows.map λr=>(jd7 (.fn f [] cap) k x r,insK beh s k x r.vals)) (λp hp=>by
   obtain⟨r,hr,rfl⟩:=List.mem_map.1 hp;refine⟨_,_,rfl,λnow hn L n xs V hH=>?_,λnow hn h0=>zif hs hB.ok (hG.rows.2 r hr) hn h0⟩;exact jjz hs hk hB x r (hG.rows.2 r hr) now hn xs V hH) (by rw[yae];have:=hG.rows.1;omega) true (by
   have e:((x.rows.map λr=>(jd7 (.fn f [] cap) k x r,insK beh s k x r.vals)).map λp=>[p.1])=x.rows.map λr=>[jd7 (.fn f [] cap) k x r]:=by rw[List.map_map];rfl
   rw[e];exact hj) G
  have e2:(x.rows.map λr=>(jd7 (.fn f [] cap) k x r,insK beh s k x r.vals)).map (·.2)=x.rows.map λr=>insK beh s k x r.vals:=by rw[List.map_map];rfl
  rw[e2,if_pos rfl]at h1;have e3:jen beh s k x db=za3 db x (x.rows.map λr=>insK beh s k x r.vals) db 0:=by
   have hw:(jv (jp db k) x.wher).2=true:=by
    rw[hG.ins hx];have key:∀(l:List RowD) (acc:List Int),∃ids,waa [] l acc=some ids:=by
     intro l
     induction l with
     |nil=>exactλacc=>⟨acc,rfl⟩
     |cons r l ih=>
      intro acc;rw[waa];exact ih _
    obtain⟨ids,h⟩:=key (jp db k) [];rw[jv,h]
   rw[jen,if_pos hw,wi3,if_pos hx]
  rw[e3];exact h1
 ·have hj:=zj1 (f:=f) (cap:=cap) x hx hidx hs.few hG.wher.1 db hk2 hR.len λr hr=>yai (wd.1 (hR.fit r hr).2).1 gb;have hml:=wb5 (l:=db[k].rows) (w:=x.wher);have hl:=hR.len;have h1:=zip hs x db hdb ((jv db[k].rows x.wher).1.map λid=>(wd7 (.fn f [] cap) s k x id,idK beh s k x id)) (λp hp=>by
   obtain⟨id,hid,rfl⟩:=List.mem_map.1 hp;refine⟨_,_,rfl,λnow hn L n xs V hH=>?_,λnow hn h0=>zku hs hB.ok hG hn h0⟩;exact wjz hs hk hB x hG id now hn xs V hH) (by rw[yae];omega) (jv db[k].rows x.wher).2 (by
   have e:(((jv db[k].rows x.wher).1.map λid=>(wd7 (.fn f [] cap) s k x id,idK beh s k x id)).map λp=>[p.1])=(jv db[k].rows x.wher).1.map λid=>[wd7 (.fn f [] cap) s k x id]:=by rw[List.map_map];rfl
   rw[e];exact hj) G
  have e2:((jv db[k].rows x.wher).1.map λid=>(wd7 (.fn f [] cap) s k x id,idK beh s k x id)).map (·.2)=(jv db[k].rows x.wher).1.map λid=>idK beh s k x id:=by rw[List.map_map];rfl
  rw[e2]at h1;have e3:jen beh s k x db=if(jv db[k].rows x.wher).2=true then za3 db x ((jv db[k].rows x.wher).1.map λid=>idK beh s k x id) db 0 else(db,8,0):=by
   rw[jen,wi3,if_neg hx,we hk2]
  rw[e3];exact h1
def zd8:AFn:=⟨134,[.t 8,.t 9,.t 10],(oH [oBx 7 3,oP 8 (.mv (.k (.nils))),oMi 9 0,oMi 10 0] (oS (oH [oM 22 0,oM 23 1,oC 24 64 [.t 22,.t 23],oUn 25 24,oM 26 25,ofm 27 0 26,ofm 28 2 26,ofc 29 65 [.t 27,.t 28] 26,oF 30 (.un .not (.t 29)) 26,oPo 31 26 30,oM 32 31,ofm 33 0 32,oF 34 (.load true 6 (.t 7)) 32,ofc 35 66 [.t 33,.t 34] 32,oF 36 (.un .not (.t 35)) 32,oPo 37 32 36] (oQ 37 (oH [oP 8 (.mv (.k (.nils))),oMi 9 1,oMi 10 0] .ret) .skip)) (oH [oM 38 0,oFa 39 1 7,oLf 40 39,oC 41 67 [.t 38,.t 40],oM 11 41] (oS (oD [[oM 43 2,oM 44 11,oIa 45 1 43 44,oLt 46 1 45,oFa 47 3 7,oLf 48 47],[oC 49 68 [.t 46,.t 48]],[oM 42 49],[oEx 50 42 0,oEx 51 42 1,oM 12 50],[oM 13 51]]) (oS (oH [oM 52 13,oUn 53 52] (oQ 53 (oH [oM 54 2,oC 55 69 [.t 54],oM 8 55,oMi 9 8,oMi 10 0] .ret) .skip)) (oH [oM 56 12,oLn 57 56,oM 14 57] (oS (oH [oFa 58 0 7,oLf 59 58,oBk 60 .eql 59 1] (oQ 60 (oG [oFa 61 2 7,oLf 62 61,oLn 63 62,oM 14 63]) .skip)) (oH [oM 64 2,oM 15 64] (oH [oMi 16 0] (oS (oH [oMi 17 0] (.block 0 (.loop (oS (oH [oM 65 17,oM 66 14,oBt 67 .lss 65 66] (oQ 67 .skip (.exit 0))) (oS (.block 1 (oH [oMi 18 0] (oH [oP 70 (.mksl true 3 0 [.int .i64 0,.int .i64 0,.str []] []),oM 19 70] (oS (oH [oFa 71 0 7,oLf 72 71,oBk 73 .eql 72 1] (oQ 73 (oG [oFa 74 2 7,oLf 75 74,oM 76 17,oIa 77 2 75 76,oFa 78 1 77,oLf 79 78,oM 19 79]) (oH [oM 80 12,oM 81 17,oIa 82 1 80 81,oLf 83 82,oM 18 83] (oH [oM 84 15,oM 85 11,oIa 86 1 84 85,oLt 87 1 86,oM 88 18,oC 89 70 [.t 87,.t 88],oBk 90 .lss 89 0] (oQ 90 (.exit 1) .skip))))) (oH [oM 92 0,oM 93 1,oM 94 15,oM 95 11,oLt 96 6 7,oM 97 18,oM 98 19,oC 99 71 [.t 92,.t 93,.t 94,.t 95,.t 96,.t 97,.t 98],oM 91 99,oEx 100 91 0,oEx 101 91 1,oM 20 100,oM 21 101] (.block 2 (oH [oM 106 21,oBk 107 .eql 106 0,oM 105 107] (oQ 105 (oH [oM 108 20,oM 15 108] (oG [oM 109 16,oBk 110 .add 109 1,oM 16 110])) (oH [oFa 112 5 7,oLf 113 112,oBk 114 .eql 113 2,oM 115 114,otm 116 21 115,otc 117 72 [.t 116,(kI 2),(kI 4)] 115,oPa 118 115 117,oM 111 118] (oQ 111 .skip (oH [oFa 120 5 7,oLf 121 120,oBk 122 .eql 121 1,oM 123 122,otm 124 21 123,oT 125 (.bin .neq (.t 124) (kI 5)) 123,oPa 126 123 125,oM 119 126] (oQ 119 (oH [oM 127 15,oC 128 69 [.t 127],oM 129 21,oM 130 16,oM 8 128,oM 9 129,oM 10 130] .ret) (oH [oM 102 2,oC 103 69 [.t 102],oM 104 21,oM 8 103,oM 9 104,oMi 10 0] .ret))))))))))))) (oG [oM 68 17,oBk 69 .add 68 1,oM 17 69])))))) (oH [oM 131 15,oC 132 69 [.t 131],oM 133 16,oM 8 132,oMi 9 0,oM 10 133] .ret)))))))))))⟩
def jhp:AFn:=⟨89,[.t 14,.t 15],(oH [oBx 11 4,oP 14 (.mv (.k (.nils))),oMi 15 0] (oH [oP 21 (.mksl true 3 0 [.int .i64 0,.int .i64 0,.str []] []),oM 16 21] (oH [oM 22 2,oM 23 3,oIa 24 1 22 23,oLt 25 1 24,oM 26 5,oC 27 70 [.t 25,.t 26],oM 17 27] (oS (oH [oM 28 17,oBk 29 .geq 28 0] (oQ 29 (oG [oM 30 2,oM 31 3,oIa 32 1 30 31,oFa 33 0 32,oLf 34 33,oM 35 17,oIa 36 2 34 35,oFa 37 1 36,oLf 38 37,oM 16 38]) .skip)) (oH [oM 40 0,oM 41 2,oM 42 3,oLt 43 6 11,oM 44 5,oM 45 6,oC 46 163 [.t 40,.t 41,.t 42,.t 43,.t 44,.t 45],oM 39 46,oEx 47 39 0,oEx 48 39 1,oM 18 47,oM 19 48] (oS (oH [oM 49 19,oBk 50 .neq 49 0] (oQ 50 (oH [oM 51 19,oP 14 (.mv (.k (.nils))),oM 15 51] .ret) .skip)) (oH [oP 52 (.mksl true 3 0 [.int .i64 0,.int .i64 0,.str []] []),oM 20 52] (oS (oH [oFa 53 0 11,oLf 54 53,oBk 55 .eql 54 1] (oQ 55 (oG [oM 56 2,oM 57 3,oIa 58 1 56 57,oLt 59 1 58,oC 60 164 [.t 59],oM 5 60]) .skip)) (oH [oM 61 18,oM 62 3,oIa 63 1 61 62,oLt 64 1 63,oM 65 5,oC 66 70 [.t 64,.t 65],oM 17 66] (oS (oH [oM 67 17,oBk 68 .geq 67 0] (oQ 68 (oG [oM 69 18,oM 70 3,oIa 71 1 69 70,oFa 72 0 71,oLf 73 72,oM 74 17,oIa 75 2 73 74,oFa 76 1 75,oLf 77 76,oM 20 77]) .skip)) (oH [oM 78 0,oM 79 1,oM 80 18,oM 81 3,oFa 82 0 11,oLf 83 82,oM 84 16,oM 85 20,oC 86 165 [.t 78,.t 79,.t 80,.t 81,.t 83,.t 84,.t 85,(kI 0)],oEx 87 86 0,oEx 88 86 1,oM 14 87,oM 15 88] .ret)))))))))))⟩
theorem zcx:ze Tryz.prog [11,21,52] 71=some jhp:=yak9
theorem wla{run:Chg->List Data->Res}{rep:Bool}(h:(insF run s k vals rep db).2.2=0):(insF run s k vals rep db).2.1=zcj (jp db k):=by
 revert h;rw[insF];split
 ·rw[insC];split
  ·rw[insD];split
   ·exactλh=>by cases h
   ·rw[insE];split
    ·exactλh=>by cases h
    ·exactλ_=>rfl
  ·rename_i h2;exactλh=>absurd h h2
 ·rename_i h2;exactλh=>absurd h h2
set_option maxHeartbeats 2000000 in
theorem zi4(hs:SchG s){l:List je}(hT:wj s l=true){k:Nat}(hk:k<s.length)(x:Stmt)(hx:x.kind=1)(vals:List Val)(hf:fitF s[k] vals=true)(db:List Data)(h:DbG BI s db):
 Pure Tryz.prog 71 [.c (.fz (s.map ja)),.c (.fz (l.map zd)),.c (.fz (db.map wa)),.c (.int .i64 (k:Int)),.agg (zg x),.c (.int .i64 0),.c (.fz (vals.map encV))] (resV (insK (behT s l k x) s k x vals db)):=by
 refine yas zcx λG=>?_;have hk2:k<db.length:=by rw[h.len];exact hk
 have hR:=h.rows k hk hk2;have hx1:(x.kind==1)=true:=beq_iff_eq.2 hx;have c1:=wac db[k] 0 (yai hR.len gb);have h0:idxA (λr:RowD=>r.id==0) db[k].rows 0=-1:=by
  rcases zj db[k].rows 0 with⟨e,_⟩|⟨j,hj,_,e⟩
  ·exact e
  ·have h1:=(zz e).2;have:=(hR.ids _ (yaa hj)).1;omega
 rw[h0]at c1;have c2:=wib hs hk x hx 0 vals hf db h;have hi:=jfk hs hk (x:=x) hf h;have hid:=wla (run:=chgF s 12) (s:=s) (k:=k) (vals:=if(x.policy==3)=true then jj (tabN s k) 0 vals else vals) (rep:=x.policy==3) (db:=db);rw[we hk2]at hid;have c3:=wf5 db[k] hR.len λr hr=>⟨(hR.ids r hr).1,(hR.ids r hr).2⟩;rw[insJ]at c2 hi;simp only at hi;rw[insK];generalize insF (chgF s 12) s k (if(x.policy==3)=true then jj (tabN s k) 0 vals else vals) (x.policy==3) db=q at c2 hi hid⊢;obtain⟨qd,qi,qc⟩:=q;simp only at c2 hi hid;rw[behI];by_cases h2:qc=0
 ·subst h2;rw[if_pos rfl,behT];rw[<-hid rfl]at c3;have hqd:=hi rfl;have hn3:k<qd.length:=by rw[hqd.len];exact hk
  have hRn:=hqd.rows k hk hn3;rw[wfi]at c2;have c4:=wac qd[k] qi (yai hRn.len gb);have c5:=zhp hs hT hk x.kind [] (nowF qd k qi) jc1 (jie hqd hk qi) qd hqd;generalize hz:ja3 s l 6 k x.kind [] (nowF qd k qi) qd=z at c5⊢;rw[nowF,we hn3]at c5;have hzr:resV z=.tup [.c (if z.2=0 then .fz (z.1.map wa)else .nils),.c (.int .i64 z.2)]:=rfl;rw[hzr]at c5;generalize (if z.2=0 then Ce.fz (z.1.map wa)else .nils)=w at c5 hzr;rcases zj qd[k].rows qi with⟨e1,e2⟩|⟨j,hj,e1,e2⟩
  ·rw[e1]at c4;rw[e2]at c5;repeat' first|refine X ?_|((first|apply yG|apply yH|apply yI);exact rfl;(first|exact yax wa rfl hk2|exact yax wa rfl hn3))|refine yaC (c1) ?_|refine yaC (c2) ?_|refine yaC (c3) ?_|refine yaC (c4) ?_|refine yaC (c5) ?_|exact yaF|refine yaS ?_ ?_<;>intro _
   all_goals first
    |contradiction
    |exact .ret rfl (Fin.same hzr.symm (jg _ _))
  ·rw[e1]at c4;rw[e2]at c5;simp only at c5;repeat' first|refine X ?_|((first|apply yG|apply yH|apply yI);exact rfl;(first|exact yax wa rfl hk2|exact yax wa rfl hn3|exact yax jc rfl hj))|refine yaC (c1) ?_|refine yaC (c2) ?_|refine yaC (c3) ?_|refine yaC (c4) ?_|refine yaC (c5) ?_|exact yaF|refine yaS ?_ ?_<;>intro _
   all_goals first
    |contradiction
    |exact .ret rfl (Fin.same hzr.symm (jg _ _))
 ·rw[if_neg h2];rw[jab (e:=qc) rfl h2]at c2;repeat' first|refine X ?_|((first|apply yG|apply yH|apply yI);exact rfl;(first|exact yax wa rfl hk2))|refine yaC (c1) ?_|refine yaC (c2) ?_|exact yaF|refine yaS ?_ ?_<;>intro _
  all_goals first
   |contradiction
   |exact .ret rfl (Fin.same (wai h2).symm (jg _ _))
set_option maxHeartbeats 2000000 in
theorem ji4(hs:SchG s){l:List je}(hT:wj s l=true){k:Nat}(hk:k<s.length)(x:Stmt)(hG:StG s[k] x)(hx:¬x.kind=1)(id:Int)(vals:List Val)(db:List Data)(h:DbG BI s db){r:RowD}(hr:jai (jp db k) id=some r):
 Pure Tryz.prog 71 [.c (.fz (s.map ja)),.c (.fz (l.map zd)),.c (.fz (db.map wa)),.c (.int .i64 (k:Int)),.agg (zg x),.c (.int .i64 id),.c (.fz (vals.map encV))] (resV (rowK (behT s l k x) s k x r db)):=by
 refine yas zcx λG=>?_;have hk2:k<db.length:=by rw[h.len];exact hk
 have hR:=h.rows k hk hk2;have hx1:(x.kind==1)=false:=beq_eq_false_iff_ne.2 hx;have c1:=wac db[k] id (yai hR.len gb);have c2:=zic hs hk x hG hx id vals db h hr;have hi:=jgt hs hk hG h (zz hr).1;have hfo:=wgw h hk (zz hr).1;have hid:r.id=id:=(zz hr).2;have hr2:=hr;rw[we hk2]at hr2;rcases zj db[k].rows id with⟨_,e2⟩|⟨j,hj,e1,e2⟩
 ·rw[e2]at hr2
  cases hr2
 rw[e2]at hr2;injection hr2 with hr2;rw[e1]at c1;rw[rowK,behR,hid];generalize rowJ s k x r db=q at c2 hi⊢;obtain⟨qd,qc⟩:=q;simp only at c2 hi⊢;by_cases h2:qc=0
 ·subst h2;rw[if_pos rfl,behT];have hqd:=hi rfl;have hn3:k<qd.length:=by rw[hqd.len];exact hk
  have hRn:=hqd.rows k hk hn3;rw[wfi]at c2;have c4:=wac qd[k] id (yai hRn.len gb);have c5:=zhp hs hT hk x.kind r.vals (nowF qd k id) hfo (jie hqd hk id) qd hqd;generalize hz:ja3 s l 6 k x.kind r.vals (nowF qd k id) qd=z at c5⊢;rw[nowF,we hn3]at c5;have hzr:resV z=.tup [.c (if z.2=0 then .fz (z.1.map wa)else .nils),.c (.int .i64 z.2)]:=rfl;rw[hzr]at c5;generalize (if z.2=0 then Ce.fz (z.1.map wa)else .nils)=w at c5 hzr;rw[<-hr2]at c5;rcases zj qd[k].rows id with⟨e3,e4⟩|⟨j2,hj2,e3,e4⟩
  ·rw[e3]at c4;rw[e4]at c5;repeat' first|refine X ?_|((first|apply yG|apply yH|apply yI);exact rfl;(first|exact yax wa rfl hk2|exact yax wa rfl hn3|exact yax jc rfl hj))|refine yaC (c1) ?_|refine yaC (c2) ?_|refine yaC (c4) ?_|refine yaC (c5) ?_|exact yaF|refine yaS ?_ ?_<;>intro _
   all_goals first
    |contradiction
    |exact .ret rfl (Fin.same hzr.symm (jg _ _))
  ·rw[e3]at c4;rw[e4]at c5;simp only at c5;repeat' first|refine X ?_|((first|apply yG|apply yH|apply yI);exact rfl;(first|exact yax wa rfl hk2|exact yax wa rfl hn3|exact yax jc rfl hj|exact yax jc rfl hj2))|refine yaC (c1) ?_|refine yaC (c2) ?_|refine yaC (c4) ?_|refine yaC (c5) ?_|exact yaF|refine yaS ?_ ?_<;>intro _
   all_goals first
    |contradiction
    |exact .ret rfl (Fin.same hzr.symm (jg _ _))
 ·rw[if_neg h2];rw[jab (e:=qc) rfl h2]at c2;repeat' first|refine X ?_|((first|apply yG|apply yH|apply yI);exact rfl;(first|exact yax wa rfl hk2|exact yax jc rfl hj))|refine yaC (c1) ?_|refine yaC (c2) ?_|exact yaF|refine yaS ?_ ?_<;>intro _
  all_goals first
   |contradiction
   |exact .ret rfl (Fin.same (wai h2).symm (jg _ _))
def ExT(s:List wc)(l:List je)(db:List Data)(x:Stmt):Ins:=if(dbF s db&&(l7F s x&&wj s l))=true then jen (behT s l (idxA (λu:wc=>u.name==x.table) s 0).toNat x) s (idxA (λu:wc=>u.name==x.table) s 0).toNat x db else([],1,0)
theorem jj1(hs:SchG s){k:Nat}{hk:k<s.length}{beh:Beh}(hB:BehK s k hk beh){x:Stmt}(hG:StG s[k] x){db:List Data}(h:DbG BI s db):DbG BI s (jen beh s k x db).1:=by
 rw[jen];split
 ·refine weq h (λj hj now hn h0=>?_) h;rw[wi3]at hj;split at hj
  ·obtain⟨r,hr,rfl⟩:=List.mem_map.1 hj;exact zif hs hB (hG.rows.2 r hr) hn h0
  ·obtain⟨id,hid,rfl⟩:=List.mem_map.1 hj;exact zku hs hB hG hn h0
 ·exact h
theorem jdu(s:List wc)(l:List je)(db:List Data)(x:Stmt)(hx:s.length<=34359738368)(hb:∀t∈s,wad 34359738368 t)(hl:l.length<=34359738368)(hlb:∀t∈l,jap 34359738368 t)(hd:db.length<=34359738368)(hdb:∀d∈db,wc5 34359738368 d)(hq:zfb 34359738368 x)(G:jb):
 Ok Tryz.prog 20 [.c (.fz (s.map ja)),.c (.fz (l.map zd)),.c (.fz (db.map wa)),.agg (zg x)] G (NewV G (.tup [.c (.fz ((ExT s l db x).1.map wa)),.c (.int .i64 (ExT s l db x).2.1),.c (.int .i64 (ExT s l db x).2.2)])):=by
 refine Ok.newV (Ok.run0 mixed wda gz λhS hA=>?_);clear hS hA;have c1:=jjj s db hx hb hd hdb;have c2:=zhl s x hx hb hq;have c3:=zgu s l hx hb hl hlb;rw[ExT]
 cases h1:dbF s db
 ·rw[h1]at c1;rw[ybg,if_neg yah];repeat' first|refine X ?_|refine yaC (c1) ?_|refine yaC (c2) ?_|refine yaC (c3) ?_|exact yaF|refine yaS ?_ ?_<;>intro _
  exact .ret rfl ⟨.refl,.three .nil⟩
 ·rw[h1]at c1;have hsc:=(wbv h1).1;rw[zib,hsc,yav]at c2;rw[yav]
  cases h2:l7F s x
  ·rw[h2]at c2;rw[ybg,if_neg yah];repeat' first|refine X ?_|refine yaC (c1) ?_|refine yaC (c2) ?_|refine yaC (c3) ?_|exact yaF|refine yaS ?_ ?_<;>intro _
   exact .ret rfl ⟨.refl,.three .nil⟩
  ·rw[h2]at c2;rw[yav]
   cases h3:wj s l
   ·rw[h3]at c3;rw[if_neg yah];repeat' first|refine X ?_|refine yaC (c1) ?_|refine yaC (c2) ?_|refine yaC (c3) ?_|exact yaF|refine yaS ?_ ?_<;>intro _
    exact .ret rfl ⟨.refl,.three .nil⟩
   ·rw[h3]at c3;rw[if_pos rfl];have hs:=schG hsc hb;obtain⟨k,hk,hidx,hG⟩:=jhl hq h2;rw[hidx,ybb];have c4:=zko hs hk (zjz hs h3 (λt ht=>(hlb t ht).2.1.1) hk x) x hG hidx db (dbB h1) G;rw[insV]at c4;generalize jen (behT s l k x) s k x db=q at c4⊢;repeat' first|refine X ?_|refine yaC (c1) ?_|refine yaC (c2) ?_|refine yaC (c3) ?_|exact yaF|refine yaS ?_ ?_<;>intro _
    refine .call _ rfl rfl rfl c4 ?_;rintro r9 V2 hq9;obtain⟨g,hr9,gr,hg⟩:=zhh (.int _ _) (.int _ _) hq9;rw[hr9];repeat' first|refine X ?_|exact yaF|refine yaS ?_ ?_<;>intro _
    exact .ret rfl ⟨.ofGr gr (yaf _),.three hg⟩
theorem jfx(s:List wc)(l:List je)(db:List Data)(x:Stmt)(hx:s.length<=34359738368)(hb:∀t∈s,wad 34359738368 t)(hl:l.length<=34359738368)(hlb:∀t∈l,jap 34359738368 t)(hd:db.length<=34359738368)(hdb:∀d∈db,wc5 34359738368 d)(hq:zfb 34359738368 x):
 (ExT s l db x).1.length<=34359738368/\(∀y∈(ExT s l db x).1,wc5 34359738368 y)/\1+cntL wfb (ExT s l db x).1<=34359738368:=by
 rw[ExT];split
 ·rename_i h0;simp only[Bool.and_eq_true]at h0;obtain⟨h1,h2,h3⟩:=h0;have hs:=schG (wbv h1).1 hb;obtain⟨k,hk,hidx,hG⟩:=jhl hq h2;rw[hidx,ybb];exact wjr hs (jj1 hs (wie hs h3 hk x) hG (dbB h1))
 ·exact⟨yac _,λx hx=>(by cases hx),gb⟩
theorem wj1{α:Type}{J L:List α}(h:J=L){i:Nat}(hi:i<J.length):J[i]=L[i]'(h▸hi):=by subst h;rfl
set_option maxHeartbeats 4000000 in
theorem zgx(s:List wc)(l:List je)(db:List Data)(x:Stmt)(hx:s.length<=34359738368)(hb:∀t∈s,wad 34359738368 t)(hl:l.length<=34359738368)(hlb:∀t∈l,jap 34359738368 t)(hd:db.length<=34359738368)(hdb:∀d∈db,wc5 34359738368 d)(hq:zfb 34359738368 x):
 Pure Tryz.prog 15 [.c (.fz (s.map ja)),.c (.fz (l.map zd)),.c (.fz (db.map wa)),.agg (zg x)] (.tup [.c (.fz ((ExT s l db x).1.map wa)),.c (.int .i64 (ExT s l db x).2.1),.c (.int .i64 (ExT s l db x).2.2)]):=by
 refine yaq [7,70] zd8 λG=>?_;have c1:=wik s db hx hb hd hdb;have c3:=zfx s l hx hb hl hlb;rw[ExT]
 cases h3:wj s l
 ·rw[h3]at c3;rw[ybj,ybj,if_neg yah];repeat' first|refine X ?_|refine yaC (c3) ?_|exact yaF|refine yaS ?_ ?_<;>intro _
  exact .ret rfl .nil3
 rw[h3]at c3
 cases h1:dbF s db
 ·rw[h1]at c1;rw[ybg,if_neg yah];repeat' first|refine X ?_|refine yaC (c1) ?_|refine yaC (c3) ?_|exact yaF|refine yaS ?_ ?_<;>intro _
  exact .ret rfl .nil3
 rw[h1]at c1;have hsc:=(wbv h1).1;have c2:=jjt s x hsc hx hb hq
 cases h2:l7F s x
 ·rw[h2]at c2;rw[yav,ybg,if_neg yah];repeat' first|refine X ?_|refine yaC (c1) ?_|refine yaC (c2) ?_|refine yaC (c3) ?_|exact yaF|refine yaS ?_ ?_<;>intro _
  exact .ret rfl .nil3
 rw[h2]at c2;rw[yav,yav,if_pos rfl];have hs:=schG hsc hb;obtain⟨k,hk,hidx,hG⟩:=jhl hq h2;rw[hidx,ybb];have h:=dbB h1;have hT:=h3;have hB:=wie hs hT hk x;have hk2:k<db.length:=by rw[h.len];exact hk
 have hR:=h.rows k hk hk2;have cat:=zcq s x.table (yai hs.few gb);rw[hidx]at cat;have cm:=NewV.pure (wgp db[k] x.wher (yai hR.len gb) (yai hG.wher.1 gb) λh0 r hr=>⟨(hR.fit r hr).2,by rw[(hR.fit r hr).1];exact hG.wher.2 h0⟩);have hml:=wb5 (l:=db[k].rows) (w:=x.wher);have hr60:=hR.len;have hr8:=hG.rows.1;have cc:∀{now:List Data},DbG BI s now->Pure Tryz.prog 69 [.c (.fz (now.map wa))] (.c (.fz (now.map wa))):=λ{now} hn=>by
  obtain⟨b1,b2,b3⟩:=jjr hs hn;exact zff now O λd hd=>⟨(b3 d hd).2.1,λr hr=>by have:=((b3 d hd).2.2 r hr).2.1;omega⟩
 have c0:=cc h;rw[jen,wi3,we hk2];generalize jv db[k].rows x.wher=mf at cm hml⊢;obtain⟨ids,b⟩:=mf;simp only at cm hml⊢
 cases b
 ·rw[if_neg yah];repeat' first|refine X ?_|((first|apply yG|apply yH|apply yI);exact rfl;(first|exact yax wa rfl hk2))|refine yaC (c1) ?_|refine yaC (c2) ?_|refine yaC (c3) ?_|refine yaC (cat) ?_|refine yaC (cm) ?_|refine yaC (c0) ?_|exact yaF|refine yaS ?_ ?_<;>intro _
  exact .ret rfl (Fin.same rfl (zdt _ _ _ _))
 rw[if_pos rfl];obtain⟨J,hJ⟩:∃J,J=(if x.kind=1 then x.rows.map λr=>insK (behT s l k x) s k x r.vals else ids.map λid=>idK (behT s l k x) s k x id):=⟨_,rfl⟩;rw[<-hJ];have hJl:J.length<=60:=by
  rw[hJ];split
  ·rw[yae];omega
  ·rw[yae];omega
 repeat' first|refine X ?_|((first|apply yG|apply yH|apply yI);exact rfl;(first|exact yax wa rfl hk2))|refine yaC (c1) ?_|refine yaC (c2) ?_|refine yaC (c3) ?_|refine yaC (cat) ?_|refine yaC (cm) ?_|fail
 refine Go.meet (K':=[_]) (λfr V'=>fr=[(0,AV.c (.fz (s.map ja))),(1,.c (.fz (l.map zd))),(2,.c (.fz (db.map wa))),(7,.c (.fp (zg x))),(11,.c (.int .i64 (k:Int))),(12,.c (.fz (ids.map encI))),(14,.c (.int .i64 (J.length:Int)))]/\V'=E G []) ?_ ?_
 ·intro K hrec;by_cases hx:x.kind=1
  ·have hx1:(x.kind==1)=true:=beq_iff_eq.2 hx;rw[if_pos hx]at hJ;have hJn:J.length=x.rows.length:=by rw[hJ,yae]
   repeat' first|refine X ?_|exact yaF|refine yaS ?_ ?_<;>intro _
   all_goals first
    |contradiction
    |exact Go.keep [0,1,2,7,11,12,14] (hrec _ _ ⟨by rw[hJn];rfl,rfl⟩)
  ·have hx1:(x.kind==1)=false:=beq_eq_false_iff_ne.2 hx;rw[if_neg hx]at hJ;have hJn:J.length=ids.length:=by rw[hJ,yae]
   repeat' first|refine X ?_|exact yaF|refine yaS ?_ ?_<;>intro _
   all_goals first
    |contradiction
    |exact Go.keep [0,1,2,7,11,12,14] (hrec _ _ ⟨by rw[hJn];rfl,rfl⟩)
 rintro fr V' ⟨rfl,rfl⟩;clear c1 c2 c3 cat cm;repeat' first|refine X ?_|exact yaF|refine yaS ?_ ?_<;>intro _
 refine Go.keep [0,1,2,7,11,12,14,15,16,17] (Go.loops (I:=λm fr V=>∃(i:Nat) (ki:Int) (now:List Data) (mc:Nat) (km:Int),m=J.length-i/\i<=J.length/\ki=i/\(DbG BI s now/\mc<=i/\km=mc/\za3 db x J db 0=za3 db x (J.drop i) now km)/\
  fr=[(0,.c (.fz (s.map ja))),(1,.c (.fz (l.map zd))),(2,.c (.fz (db.map wa))),(7,.c (.fp (zg x))),(11,.c (.int .i64 (k:Int))),(12,.c (.fz (ids.map encI))),(14,.c (.int .i64 (J.length:Int))),(15,.c (.fz (now.map wa))),(16,.c (.int .i64 km)),(17,.c (.int .i64 ki))]/\V=E G []) ?_ _ _ _ ⟨0,_,db,0,_,rfl,yac _,rfl,⟨h,yaf _,rfl,rfl⟩,rfl,rfl⟩)
 rintro m fr V ⟨i,ki,now,mc,km,rfl,hi,hki,⟨hnow,hmc,hkm,hst⟩,rfl,rfl⟩ hrec;have cn:=cc hnow;by_cases hlt:i<J.length
 ·have hw1:IntKind.i64.wrap (km+1)=km+1:=zk O O;have hn3:k<now.length:=by rw[hnow.len];exact hk
  have hRn:=hnow.rows k hk hn3;rw[yab hlt,za3]at hst;by_cases hno:¬x.kind=1/\∃hi2:i<ids.length,jai now[k].rows ids[i]=none
  ·obtain⟨hx,hi2,hno⟩:=hno;rw[if_neg hx]at hJ;have hJi:J[i] now=([],-1):=by
    rw[wj1 hJ hlt,List.getElem_map,idK,we hn3,hno]
   rw[hJi,if_neg gb,if_pos (.inl rfl)]at hst;have c5:=wac now[k] ids[i] (yai hRn.len gb);rcases zj now[k].rows ids[i]with⟨hx1,_⟩|⟨j,hj,_,hx2⟩
   ·rw[hx1]at c5;repeat' first|refine X ?_|((first|apply yG|apply yH|apply yI);exact rfl;(first|exact yax encI hki hi2|exact yax wa rfl hn3))|refine yaC (c5) ?_|exact yaF|refine yaS ?_ ?_<;>intro _
    all_goals first
     |contradiction
     |exact Go.keep [0,1,2,7,11,12,14,15,16,17] (hrec _ _ _ O ⟨i+1,_,now,mc,_,rfl,hlt,wb hki O,⟨hnow,O,hkm,hst⟩,rfl,rfl⟩)
   ·rw[hno]at hx2
    cases hx2
  ·repeat' first|refine X ?_|fail
   rw[decide_eq_true (show ki<(J.length:Int) by omega)];repeat' first|refine X ?_|fail
   refine Go.meet (K':=[_]) (λfr V'=>(∃(idv:Int) (vals:List Val),Pure Tryz.prog 71 [.c (.fz (s.map ja)),.c (.fz (l.map zd)),.c (.fz (now.map wa)),.c (.int .i64 (k:Int)),.agg (zg x),.c (.int .i64 idv),.c (.fz (vals.map encV))] (resV (J[i] now))/\
    fr=[(0,AV.c (.fz (s.map ja))),(1,.c (.fz (l.map zd))),(2,.c (.fz (db.map wa))),(7,.c (.fp (zg x))),(11,.c (.int .i64 (k:Int))),(12,.c (.fz (ids.map encI))),(14,.c (.int .i64 (J.length:Int))),(15,.c (.fz (now.map wa))),(16,.c (.int .i64 km)),(17,.c (.int .i64 ki)),(18,.c (.int .i64 idv)),(19,.c (.fz (vals.map encV)))])/\0<=(J[i] now).2/\((J[i] now).2=0->DbG BI s (J[i] now).1)/\V'=E G []) ?_ ?_
   ·intro K hm;clear hrec hst;by_cases hx:x.kind=1
    ·have hx1:(x.kind==1)=true:=beq_iff_eq.2 hx;rw[if_pos hx]at hJ;have hlr:i<x.rows.length:=by rw[hJ,yae]at hlt;exact hlt
     have hJi:J[i] now=insK (behT s l k x) s k x x.rows[i].vals now:=by rw[wj1 hJ hlt,List.getElem_map]
     have hfit:=hG.rows.2 _ (yaa hlr);have c3:=zi4 hs hT hk x hx x.rows[i].vals hfit now hnow;have hkp:=zif hs hB (x:=x) hfit hnow;have hcd:0<=(insK (behT s l k x) s k x x.rows[i].vals now).2:=jkn hB.cod zeq;rw[<-hJi]at c3 hkp hcd;repeat' first|refine X ?_|((first|apply yG|apply yH|apply yI);exact rfl;(first|exact yax jc hki hlr))|exact yaF|refine yaS ?_ ?_<;>intro _
     all_goals first
      |contradiction
      |exact Go.keep [0,1,2,7,11,12,14,15,16,17,18,19] (hm _ _ ⟨⟨_,_,c3,rfl⟩,hcd,hkp,rfl⟩)
    ·have hx1:(x.kind==1)=false:=beq_eq_false_iff_ne.2 hx;rw[if_neg hx]at hJ;have hlr:i<ids.length:=by rw[hJ,yae]at hlt;exact hlt
     have c5:=wac now[k] ids[i] (yai hRn.len gb);rcases zj now[k].rows ids[i]with⟨_,hx2⟩|⟨j,hj,hj1,hj2⟩
     ·exact absurd ⟨hx,hlr,hx2⟩ hno
     have hrow:jai (jp now k) ids[i]=some now[k].rows[j]:=by rw[we hn3];exact hj2
     have hJi:J[i] now=rowK (behT s l k x) s k x now[k].rows[j] now:=by
      rw[wj1 hJ hlt,List.getElem_map,idK,hrow]
     have c3:=ji4 hs hT hk x hG hx ids[i] [] now hnow hrow;have hkp:=jjy hs hB hG hnow (zz hrow).1;have hcd:0<=(rowK (behT s l k x) s k x now[k].rows[j] now).2:=wkn hB.cod wki;rw[<-hJi]at c3 hkp hcd;rw[hj1]at c5;repeat' first|refine X ?_|((first|apply yG|apply yH|apply yI);exact rfl;(first|exact yax encI hki hlr|exact yax wa rfl hn3))|refine yaC (c5) ?_|exact yaF|refine yaS ?_ ?_<;>intro _
     all_goals first
      |contradiction
      |exact Go.keep [0,1,2,7,11,12,14,15,16,17,18,19] (hm _ _ ⟨⟨_,_,c3,rfl⟩,hcd,hkp,rfl⟩)
   rintro fr V' ⟨⟨idv,vals,c3,rfl⟩,hcd,hkp,rfl⟩;clear hno;generalize J[i] now=q at c3 hcd hkp hst;have hne:¬q.2=-1:=O;by_cases hq:q.2=0
   ·rw[if_pos hq]at hst;rw[zaf hq]at c3;have hnq:=hkp hq;rw[<-hw1]at hst;repeat' first|refine X ?_|refine yaC (c3) ?_|exact yaF|refine yaS ?_ ?_<;>intro _
    all_goals first
     |contradiction
     |exact Go.keep [0,1,2,7,11,12,14,15,16,17] (hrec _ _ _ O ⟨i+1,_,q.1,mc+1,_,rfl,hlt,wb hki O,⟨hnq,O,wb hkm O,hst⟩,rfl,rfl⟩)
   ·obtain⟨e,he⟩:∃e,q.2=e:=⟨_,rfl⟩;rw[if_neg hq,he]at hst;rw[he]at hq hne;rw[jab he hq]at c3;have c4:=zav e 2 4;rw[ji3]at hst;by_cases hp:x.policy=2
    ·rw[beq_iff_eq.2 hp,yav]at hst;have hp1:¬x.policy=1:=O
     cases hin:isIn e 2 4
     ·rw[hin]at c4 hst;rw[if_neg (λh=>by rcases h with h|h;exact hne h;cases h),if_neg (λh=>hp1 h.1)]at hst;rw[hst];repeat' first|refine X ?_|refine yaC (c4) ?_|refine yaC (c3) ?_|refine yaC (c0) ?_|exact yaF|refine yaS ?_ ?_<;>intro _
      all_goals first
       |contradiction
       |exact .ret rfl (Fin.same rfl (zdt _ _ _ _))
       |(exfalso;simp_all;done)
     ·rw[hin]at c4 hst;rw[if_pos (.inr rfl)]at hst;repeat' first|refine X ?_|refine yaC (c4) ?_|refine yaC (c3) ?_|exact yaF|refine yaS ?_ ?_<;>intro _
      all_goals first
       |contradiction
       |exact Go.keep [0,1,2,7,11,12,14,15,16,17] (hrec _ _ _ O ⟨i+1,_,now,mc,_,rfl,hlt,wb hki O,⟨hnow,O,hkm,hst⟩,rfl,rfl⟩)
       |(exfalso;simp_all;done)
    ·rw[beq_eq_false_iff_ne.2 hp,ybg,if_neg (λh=>by rcases h with h|h;exact hne h;cases h)]at hst;by_cases hp1:x.policy=1/\¬e=5
     ·rw[if_pos hp1]at hst;obtain⟨hp1,h5⟩:=hp1;rw[hst];repeat' first|refine X ?_|refine yaC (c4) ?_|refine yaC (c3) ?_|refine yaC (cn) ?_|exact yaF|refine yaS ?_ ?_<;>intro _
      all_goals first
       |contradiction
       |exact .ret rfl (Fin.same rfl (zdt _ _ _ _))
       |(exfalso;simp_all;done)
     ·rw[if_neg hp1]at hst;rw[hst];repeat' first|refine X ?_|refine yaC (c4) ?_|refine yaC (c3) ?_|refine yaC (c0) ?_|exact yaF|refine yaS ?_ ?_<;>intro _
      all_goals first
       |contradiction
       |exact .ret rfl (Fin.same rfl (zdt _ _ _ _))
       |(exfalso;simp_all;done)
 ·rw[yad O,za3]at hst;rw[hst];repeat' first|refine X ?_|refine yaC (cn) ?_|exact yaF|refine yaS ?_ ?_<;>intro _
  exact .ret rfl (Fin.same rfl (zdt _ _ _ _))
theorem jf9{d:Nat}:ja3 s [] d k ev old now db=(db,0):=by
 cases d with
 |zero=>rw[ja3];exact if_pos rfl
 |succ d=>rw[ja3];rfl
theorem wc1{α:Type}{db0:List Data}{x:Stmt}{f g:α->List Data->Res}(h:∀a now,(f a now).2=(g a now).2/\((g a now).2=0->(f a now).1=(g a now).1)):∀{l:List α} {now:List Data} {m:Int},za3 db0 x (l.map f) now m=za3 db0 x (l.map g) now m
 |[],_,_=>rfl
 |a::l,now,m=>by
  obtain⟨h1,h2⟩:=h a now;rw[ybv,ybv,za3,za3,h1,wc1 h (l:=l) (now:=now)];by_cases h0:(g a now).2=0
  ·rw[if_pos h0,if_pos h0,h2 h0,wc1 h]
  ·rw[if_neg h0,if_neg h0]
theorem wi4:jen (behT s [] k x) s k x db=wfj s k x db:=by
 have hr:∀(r:RowD) (now:List Data),(rowK (behT s [] k x) s k x r now).2=(rowJ s k x r now).2/\((rowJ s k x r now).2=0->(rowK (behT s [] k x) s k x r now).1=(rowJ s k x r now).1):=λr now=>by
  rw[rowK,behR];by_cases h:(rowJ s k x r now).2=0
  ·rw[if_pos h,behT,jf9];exact⟨h.symm,λ_=>rfl⟩
  ·rw[if_neg h];exact⟨rfl,λe=>absurd e h⟩
 rw[jen,wfj];by_cases hm:(jv (jp db k) x.wher).2=true
 ·rw[if_pos hm,if_pos hm,wi3,wjt];by_cases h1:x.kind=1
  ·rw[if_pos h1,if_pos h1];refine wc1 (f:=λr:RowD=>insK (behT s [] k x) s k x r.vals) (g:=λr:RowD=>insJ s k x r.vals) λr now=>?_;show(insK (behT s [] k x) s k x r.vals now).2=(insJ s k x r.vals now).2/\((insJ s k x r.vals now).2=0->(insK (behT s [] k x) s k x r.vals now).1=(insJ s k x r.vals now).1);rw[insK,insJ,behI];generalize insF (chgF s 12) s k (if(x.policy==3)=true then jj (tabN s k) 0 r.vals else r.vals) (x.policy==3) now=q;by_cases h:q.2.2=0
   ·rw[if_pos h,behT,jf9];exact⟨h.symm,λ_=>rfl⟩
   ·rw[if_neg h];exact⟨rfl,λe=>absurd e h⟩
  ·rw[if_neg h1,if_neg h1];refine wc1 (f:=λid:Int=>idK (behT s [] k x) s k x id) (g:=λid:Int=>idJ s k x id) λid now=>?_;show(idK (behT s [] k x) s k x id now).2=(idJ s k x id now).2/\((idJ s k x id now).2=0->(idK (behT s [] k x) s k x id now).1=(idJ s k x id now).1);rw[idK,idJ]
   cases jai (jp now k) id with
   |none=>exact⟨rfl,λ_=>rfl⟩
   |some r=>exact hr r now
 ·rw[if_neg hm,if_neg hm]
theorem jko:ExT s [] db x=ExF s db x:=by
 rw[ExT,ExF];by_cases h:dbF s db=true
 ·have ht:wj s []=true:=by rw[wj,(wbv h).1];rfl
  rw[ht,Bool.and_true,wi4]
 ·rw[Bool.not_eq_true]at h;rw[h]
  rfl
theorem jgx(l:List je):OldL n (l.map zd):=λe he c hc=>by
 obtain⟨a,_,rfl⟩:=List.mem_map.1 he;simp only[zd,List.mem_cons,List.not_mem_nil,or_false]at hc;rcases hc with rfl|rfl|rfl|rfl|rfl
 ·exact .str _
 ·exact .int _ _
 ·exact jl (j8 wb3)
 ·exact .str _
 ·exact jl (win _)
theorem wko:∀e∈l.map zd,e.length=5:=λe he=>by
 obtain⟨a,_,rfl⟩:=List.mem_map.1 he
 rfl
def zli(r:AV):Prop:=∃ts:List je,ts.length<=3/\(∀t∈ts,jap 34359738368 t)/\r=.c (.fz (ts.map zd))
def zkp(G:jb)(n1 n2:List UInt8)(ev:Int)(x2:Ce)(rs:List Term)(ll:List (Nat×List (List Ce))):Prop:=
 (rs=[]/\ll=[(0,[[.str n1,.int .i64 ev,x2,.str n2,.nils]])])\/∃v junk,Jk 1 junk/\ll=[(0,[[.str n1,.int .i64 ev,x2,.str n2,vec (G.next+2) v (rs.map zt) junk]]),(v,rs.map zt++junk)]
theorem jkp{b:Nat×List (List Ce)}{n1 n2:List UInt8}{x2:Ce}{w:List Tok}{rs:List Term}{ll:List (Nat×List (List Ce))}(h2:NF x2 (w.map zi))(h:zkp G n1 n2 ev x2 rs ll):FrzV (E G (b::ll)) (G.next+1) (.c (.ptr (G.next+1) 0 0 0)) (.c (.fp (zd ⟨n1,ev,w,n2,rs⟩))):=by
 rcases h with⟨rfl,rfl⟩|⟨v,junk,hj,rfl⟩
 ·refine .c (.ptr _ _ _ _ [[.str n1,.int .i64 ev,x2,.str n2,.nils]] _ _ (yaf _) (jck (k:=1) rfl) rfl rfl λk hk=>?_);have hk5:k<5:=hk;have:k=0\/k=1\/k=2\/k=3\/k=4:=O;rcases this with rfl|rfl|rfl|rfl|rfl
  ·exact .same _ (.str _)
  ·exact .same _ (.int _ _)
  ·exact h2.frz (j8 wb3)
  ·exact .same _ (.str _)
  ·exact .nil
 ·refine .c (.ptr _ _ _ _ [[.str n1,.int .i64 ev,x2,.str n2,vec (G.next+2) v (rs.map zt) junk]] _ _ (yaf _) (jck (k:=1) rfl) rfl rfl λk hk=>?_);have hk5:k<5:=hk;have:k=0\/k=1\/k=2\/k=3\/k=4:=O;rcases this with rfl|rfl|rfl|rfl|rfl
  ·exact .same _ (.str _)
  ·exact .same _ (.int _ _)
  ·exact h2.frz (j8 wb3)
  ·exact .same _ (.str _)
  ·have hz:=wav (G:=G) (l:=[b,(0,[[.str n1,.int .i64 ev,x2,.str n2,vec (G.next+2) v (rs.map zt) junk]]),(v,rs.map zt++junk)]) (k:=2) (v:=v) (N:=G.next+1) (ys:=rs.map zt) (junk:=junk) rfl (win _) (ybh _)
   cases hz with
   |c h=>exact h
theorem jif(s:List wc)(hs:SchD s):jal Tryz.prog 139 [.c (.fz (s.map ja))] zli:=by
 refine jal.run mixed jb8 gz λG id v code p hr hp hc hS=>?_;have hs1:=hs.1;have hs3:=hs.2.1;have hsO:∀n,∀y∈(AV.c (.fz (s.map ja))).all,Old n y:=λn y hy=>by
  rw[List.mem_singleton.1 hy];exact jl (jff _)
 repeat' first|refine yaN ?_|exact yaF|refine yaS ?_ ?_<;>intro _
 refine Go.drawn hr hp rfl rfl rfl (jm 4 gb gb) ?_;rintro _ q hq ⟨d,hd0,hd1,rfl⟩;repeat' first|refine yaN ?_|exact yaF|refine yaS ?_ ?_<;>intro _
 refine Go.keep [0,1,5,6] (Go.loops (I:=λm fr V=>∃(d:Int) (q u:Nat) (ts:List je) (junk:List (List Ce)),m=d.toNat/\q<=code.length/\(ts.length:Int)+d<=3/\0<=d/\(∀t∈ts,jap 34359738368 t)/\Jk 5 junk/\
  fr=[(0,.c (.ptr id v 0 0)),(1,.c (.fz (s.map ja))),(5,.c (vec (G.next+0) u (ts.map zd) junk)),(6,.c (.int .i64 d))]/\V=E (Rd.go G id v code q) [(u,ts.map zd++junk)]) ?_ _ _ _ ⟨d,q,0,[],[],rfl,hq,by simp;omega,hd0,λt ht=>(by cases ht),Jk.nil,rfl,rfl⟩)
 clear hd0 hd1 hq;clear d q;rintro m fr V ⟨d,q,u,ts,junk,rfl,hq,htd,hd0,htb,hj,rfl,rfl⟩ hrec;by_cases hd:d>0
 ·have ed:IntKind.i64.wrap (d-1)=d-1:=zk O O;repeat' first|refine X ?_|exact yaF|refine yaS ?_ ?_<;>intro _
  refine Go.drawn hr hq rfl rfl rfl (jm s.length O O) ?_;intro r q1 hq1 hz;obtain⟨k,hk,rfl⟩:=jct O hz;repeat' first|refine X ?_|((first|apply yG|apply yH|apply yI);exact rfl;(first|exact yax ja rfl hk))|exact yaF|refine yaS ?_ ?_<;>intro _
  refine Go.drawn hr hq1 rfl rfl rfl (jm s.length O O) ?_;intro r q2 hq2 hz2;obtain⟨k2,hk2,rfl⟩:=jct O hz2;repeat' first|apply Go.seq|apply Go.skip|apply Go.region|apply Go.nil|apply Go.block|apply Go.blk|apply Go.segs|(apply Go.exit;exact rfl)|(apply Go.cond true;exact rfl)|(apply Go.cond false;exact rfl)|apply yB|apply yC|((first|apply yD|apply yE);(first|exact yF|assumption);iterate 6 exact rfl)|((first|apply yG|apply yH|apply yI);exact rfl;(first|exact yJ|exact yK rfl rfl|exact yL rfl|exact yM rfl|exact rfl|exact aL rfl rfl rfl rfl rfl|exact aS rfl rfl rfl rfl rfl rfl rfl|exact yax ja rfl hk2))|((first|apply yN|apply yO|apply yP);exact rfl)|exact yaF|(((first|apply yT|apply yU|apply yV|apply yW);exact rfl;(first|exact .d|exact .e|exact .n|((fail_if_success exact bqt);(fail_if_success exact bqf);exact .b)))<;>intro _)
  have hT1:=hs.2.2 _ (yaa hk);have hT2:=hs.2.2 _ (yaa hk2);have hlo:=hT1.lo;have hhi:=hT1.hi;have hn1:=hT1.b.1;have hhi2:=hT2.hi;have hn2:=hT2.b.1;clear hT1 hT2 hz hz2;generalize s[k]=T at hlo hhi hn1;generalize s[k2]=T2 at hhi2 hn2;apply Go.draw;refine Go.qr [(u,ts.map zd++junk)] rfl ?_;repeat' first|(apply Qx.op;exact rfl;exactλ_ _ _=>rfl)
  refine Qx.drawn hr hq2 rfl rfl rfl (jm 3 gb gb) ?_;rintro _ q3 hq3 ⟨ev,_,_,rfl⟩;repeat' first|(apply Qx.op;exact rfl;exactλ_ _ _=>rfl)
  refine Qx.alloc rfl ⟨[],rfl⟩ ?_;refine .nil ?_;generalize IntKind.i64.wrap (1+ev)=ev2;repeat' first|refine X ?_|exact yaF|refine yaS ?_ ?_<;>intro _
  generalize hN:T.cols.length=N at hlo hhi
  refine Go.keep [0,1,5,6,8,9,10,11] (Go.loops (I:=λm fr V=>∃(i:Nat) (z:Int) (q:Nat) (rs:List Term) (ll:List (Nat×List (List Ce))),m=T2.cols.length-i/\i<=T2.cols.length/\z=i/\q<=code.length/\rs.length=i/\(∀t∈rs,zkm t)/\zkp G T.name T2.name ev2 .nils rs ll/\
   fr=[(0,.c (.ptr id v 0 0)),(1,.c (.fz (s.map ja))),(5,.c (vec (G.next+0) u (ts.map zd) junk)),(6,.c (.int .i64 d)),(8,.c (.fp (ja T2))),(9,.c (.ptr (G.next+1) 0 0 0)),(10,.c (.int .i64 (N:Int))),(11,.c (.int .i64 z))]/\V=E (Rd.go G id v code q) ((u,ts.map zd++junk)::ll)) ?_ _ _ _ ⟨0,_,q3,[],_,rfl,yac _,rfl,hq3,rfl,λt ht=>(by cases ht),.inl ⟨rfl,rfl⟩,by rw[<-hN];rfl,rfl⟩)
  clear hq hq1 hq2 hq3;clear q q1 q2 q3;rintro m fr V ⟨i,z,q,rs,ll,rfl,hi,hz,hq,hrl,hrb,hTS,rfl,rfl⟩ hreci;by_cases hlt:i<T2.cols.length
  ·have more:∀(t:Term) (q:Nat) (ll:List (Nat×List (List Ce))) (fr:Fr) (V:jb),zkm t->q<=code.length->zkp G T.name T2.name ev2 .nils (rs++[t]) ll->fr=[(0,AV.c (.ptr id v 0 0)),(1,.c (.fz (s.map ja))),(5,.c (vec (G.next+0) u (ts.map zd) junk)),(6,.c (.int .i64 d)),(8,.c (.fp (ja T2))),(9,.c (.ptr (G.next+1) 0 0 0)),(10,.c (.int .i64 (N:Int))),(11,.c (.int .i64 (IntKind.i64.wrap (z+1))))]->V=E (Rd.go G id v code q) ((u,ts.map zd++junk)::ll)->_:=λt q ll fr V h1 h2 h3 h4 h5=>
    hreci (T2.cols.length-(i+1)) fr V O ⟨i+1,_,q,rs++[t],ll,rfl,hlt,wb hz O,h2,by rw[yaqq,ybf];omega,λx hx=>by
     rcases List.mem_append.1 hx with hx|hx
     ·exact hrb x hx
     ·rw[List.mem_singleton.1 hx];exact h1,h3,h4,h5⟩
   clear hreci hrec;have hbd:((rs.map zt).length+1)*24<=140737488355328:=by rw[yae];omega
   by_cases hk1:T2.cols[i].kind=1
   ·repeat' first|refine X ?_|((first|apply yG|apply yH|apply yI);exact rfl;(first|exact yax jf hz hlt))|refine yaC (zaa zf) ?_|exact yaF|refine yaS ?_ ?_<;>intro _
    refine Go.drawn hr hq rfl rfl rfl (jm 2 gb gb) ?_;rintro _ q4 hq4 ⟨a,_,_,rfl⟩;repeat' first|refine X ?_|((first|apply yQ|apply yR|apply yS);(iterate 3 exact rfl);exact zcz _)|exact yaF|refine yaS ?_ ?_<;>intro _
    refine Go.drawn hr hq4 rfl rfl rfl (jm 3 gb gb) ?_;rintro _ q5 hq5 ⟨b,_,_,rfl⟩;generalize IntKind.i64.wrap (a*(N:Int))=c;have h9:zkm (⟨[tCol c,zaq (vInt b),⟨9,0,zf⟩]⟩:Term):=⟨gx,λt ht=>by
     simp only[List.mem_cons,List.not_mem_nil,or_false]at ht;rcases ht with rfl|rfl|rfl<;>exact yac _⟩
    rcases hTS with⟨rfl,rfl⟩|⟨u2,junk2,hj2,rfl⟩
    ·repeat' first|(apply yA;exact rfl)|apply yB|apply yC|((first|apply yD|apply yE);(first|exact yF|assumption);iterate 6 exact rfl)|((first|apply yG|apply yH|apply yI);exact rfl;(first|exact yJ|exact yK rfl rfl|exact yL rfl|exact yM rfl|exact zd6 rfl rfl (λe he=>by rw[List.mem_singleton.1 he];rfl) (by simp)|exact rfl|exact aL rfl rfl rfl rfl rfl|exact aS rfl rfl rfl rfl rfl rfl rfl))|((first|apply yN|apply yO|apply yP);exact rfl)|((first|apply yQ|apply yR|apply yS);(iterate 3 exact rfl);(first|exact jak _|exact zaa _))|exact yaF|(((first|apply yT|apply yU|apply yV|apply yW);exact rfl;(first|exact .d|exact .e|exact .n|((fail_if_success exact bqt);(fail_if_success exact bqf);exact .b)))<;>intro _)
     exact Go.keep [0,1,5,6,8,9,10,11] (more (⟨[tCol c,zaq (vInt b),⟨9,0,zf⟩]⟩:Term) q5 _ _ _ h9 hq5 (.inr ⟨0,[],Jk.nil,rfl⟩) rfl rfl)
    ·repeat' first|refine X ?_|((first|apply yQ|apply yR|apply yS);(iterate 3 exact rfl);exact jak _)|((first|apply yQ|apply yR|apply yS);(iterate 3 exact rfl);exact zaa _)|exact yaF|refine yaS ?_ ?_<;>intro _
     refine Go.app1 (k:=2) (ys:=rs.map zt) (junk:=junk2) (z:=zt (⟨[tCol c,zaq (vInt b),⟨9,0,zf⟩]⟩:Term)) rfl rfl rfl rfl rfl zio hj2 rfl hbd λu' junk' hj'=>?_;rw[show rs.map zt++[zt (⟨[tCol c,zaq (vInt b),⟨9,0,zf⟩]⟩:Term)]=(rs++[(⟨[tCol c,zaq (vInt b),⟨9,0,zf⟩]⟩:Term)]).map zt by simp];repeat' first|refine X ?_|exact yaF|refine yaS ?_ ?_<;>intro _
     exact Go.keep [0,1,5,6,8,9,10,11] (more (⟨[tCol c,zaq (vInt b),⟨9,0,zf⟩]⟩:Term) q5 _ _ _ h9 hq5 (.inr ⟨u',junk',hj',rfl⟩) rfl rfl)
   ·have h9:zkm (⟨[zaq zf]⟩:Term):=⟨gx,λt ht=>by rw[List.mem_singleton.1 ht];exact yac _⟩;rcases hTS with⟨rfl,rfl⟩|⟨u2,junk2,hj2,rfl⟩
    ·repeat' first|(apply yA;exact rfl)|apply yB|apply yC|((first|apply yD|apply yE);(first|exact yF|assumption);iterate 6 exact rfl)|((first|apply yG|apply yH|apply yI);exact rfl;(first|exact yJ|exact yK rfl rfl|exact yL rfl|exact yM rfl|exact zd6 rfl rfl (λe he=>by rw[List.mem_singleton.1 he];rfl) (by simp)|exact rfl|exact aL rfl rfl rfl rfl rfl|exact aS rfl rfl rfl rfl rfl rfl rfl|exact yax jf hz hlt))|((first|apply yN|apply yO|apply yP);exact rfl)|((first|apply yQ|apply yR|apply yS);(iterate 3 exact rfl);exact zaa zf)|exact yaF|(((first|apply yT|apply yU|apply yV|apply yW);exact rfl;(first|exact .d|exact .e|exact .n|((fail_if_success exact bqt);(fail_if_success exact bqf);exact .b)))<;>intro _)
     exact Go.keep [0,1,5,6,8,9,10,11] (more (⟨[zaq zf]⟩:Term) q _ _ _ h9 hq (.inr ⟨0,[],Jk.nil,rfl⟩) rfl rfl)
    ·repeat' first|refine X ?_|((first|apply yG|apply yH|apply yI);exact rfl;(first|exact yax jf hz hlt))|refine yaC (zaa zf) ?_|exact yaF|refine yaS ?_ ?_<;>intro _
     refine Go.app1 (k:=2) (ys:=rs.map zt) (junk:=junk2) (z:=zt (⟨[zaq zf]⟩:Term)) rfl rfl rfl rfl rfl zio hj2 rfl hbd λu' junk' hj'=>?_;rw[show rs.map zt++[zt (⟨[zaq zf]⟩:Term)]=(rs++[(⟨[zaq zf]⟩:Term)]).map zt by simp];repeat' first|refine X ?_|exact yaF|refine yaS ?_ ?_<;>intro _
     exact Go.keep [0,1,5,6,8,9,10,11] (more (⟨[zaq zf]⟩:Term) q _ _ _ h9 hq (.inr ⟨u',junk',hj',rfl⟩) rfl rfl)
  ·clear hreci;repeat' first|refine X ?_|exact yaF|refine yaS ?_ ?_<;>intro _
   refine Go.meet (K':=[_,_]) (λfr V=>∃(q:Nat) (w:List Tok) (x2:Ce) (ll:List (Nat×List (List Ce))),q<=code.length/\NF x2 (w.map zi)/\w.length<=7/\(∀t∈w,bTok 12 t)/\zkp G T.name T2.name ev2 x2 rs ll/\
    fr=[(0,.c (.ptr id v 0 0)),(1,.c (.fz (s.map ja))),(5,.c (vec (G.next+0) u (ts.map zd) junk)),(6,.c (.int .i64 d)),(9,.c (.ptr (G.next+1) 0 0 0))]/\V=E (Rd.go G id v code q) ((u,ts.map zd++junk)::ll)) (λK hm=>?_) ?_
   ·refine Go.drawn hr hq rfl rfl rfl (z3 2 gb gb) ?_;rintro _ q3 hq3 ⟨b3,rfl⟩
    cases b3
    ·repeat' first|refine X ?_|exact yaF|refine yaS ?_ ?_<;>intro _
     exact Go.keep [0,1,5,6,9] (hm _ _ ⟨q3,[],.nils,ll,hq3,.inr ⟨rfl,rfl⟩,gx,λt ht=>(by cases ht),hTS,rfl,rfl⟩)
    ·repeat' first|refine X ?_|exact yaF|refine yaS ?_ ?_<;>intro _
     refine Go.drawn hr hq3 rfl rfl rfl (jh4 N O O) ?_;rintro _ q4 hq4 ⟨w,hw,hwb,rfl⟩;rcases hTS with⟨rfl,rfl⟩|⟨u2,junk2,hj2,rfl⟩
     ·repeat' first|refine X ?_|exact yaF|refine yaS ?_ ?_<;>intro _
      exact Go.keep [0,1,5,6,9] (hm _ _ ⟨q4,w,_,_,hq4,.inl rfl,hw,hwb,.inl ⟨rfl,rfl⟩,rfl,rfl⟩)
     ·repeat' first|refine X ?_|exact yaF|refine yaS ?_ ?_<;>intro _
      exact Go.keep [0,1,5,6,9] (hm _ _ ⟨q4,w,_,_,hq4,.inl rfl,hw,hwb,.inr ⟨u2,junk2,hj2,rfl⟩,rfl,rfl⟩)
   clear hTS hq;clear q ll;rintro fr V ⟨q,w,x2,ll,hq,h2,hw,hwb,hTS,rfl,rfl⟩
   refine Go.freezeN (l:=[(u,ts.map zd++junk)]) (m:=ll) (fr':=[(0,.c (.ptr id v 0 0)),(1,.c (.fz (s.map ja))),(5,.c (vec (G.next+0) u (ts.map zd) junk)),(6,.c (.int .i64 d)),(9,.c (.fp (zd (⟨T.name,ev2,w,T2.name,rs⟩:je))))]) (hr.old hS) (λb hb e he x hx=>?_) (yaf _)
    (.frz rfl (.refl (z4 (yaw hr.2.1))) (.frz rfl (.refl (hsO _)) (.frz rfl (.refl (zai (yal _))) (.frz rfl (.refl zu) (.frz rfl (jkp h2 hTS) .nil))))) ?_
   ·rw[List.mem_singleton.1 hb]at he;rcases List.mem_append.1 he with he|he
    ·exact jgx _ e he x hx
    ·exact((hj e he).2 x hx).old _
   have htl:ts.length<=3:=O;have htB:jap 34359738368 (⟨T.name,ev2,w,T2.name,rs⟩:je):=⟨by show T.name.length<=_;omega,⟨by show w.length<=_;omega,λt ht=>wgt (hwb t ht)⟩,by show T2.name.length<=_;omega,by show rs.length<=_;omega,λt ht=>⟨by have:=(hrb t ht).1;omega,λx hx=>wgt ((hrb t ht).2 x hx)⟩⟩;have hbd:((ts.map zd).length+1)*88<=140737488355328:=by rw[yae];omega
   repeat' first|refine X ?_|exact yaF|refine yaS ?_ ?_<;>intro _
   refine Go.app1 (k:=0) (ys:=ts.map zd) (junk:=junk) (z:=zd (⟨T.name,ev2,w,T2.name,rs⟩:je)) rfl rfl rfl rfl rfl wko hj rfl hbd λu' junk' hj'=>?_;rw[show ts.map zd++[zd (⟨T.name,ev2,w,T2.name,rs⟩:je)]=(ts++[(⟨T.name,ev2,w,T2.name,rs⟩:je)]).map zd by simp];repeat' first|refine X ?_|exact yaF|refine yaS ?_ ?_<;>intro _
   refine Go.keep [0,1,5,6] (hrec (d-1).toNat _ _ O ⟨d-1,q,u',ts++[(⟨T.name,ev2,w,T2.name,rs⟩:je)],junk',rfl,hq,by rw[yaqq,ybf];omega,O,λx hx=>?_,hj',by rw[ed];rfl,rfl⟩);rcases List.mem_append.1 hx with hx|hx
   ·exact htb x hx
   ·rw[List.mem_singleton.1 hx];exact htB
 ·clear hrec;have htl:ts.length<=3:=O;repeat' first|refine X ?_|exact yaF|refine yaS ?_ ?_<;>intro _
  refine Go.drawn hr hq rfl rfl rfl (z3 30 gb gb) ?_;rintro _ q3 hq3 ⟨b3,rfl⟩
  have fin:∀(ts:List je) (u:Nat) (junk:List (List Ce)) (l:List (Nat×List (List Ce))),ts.length<=3->(∀t∈ts,jap 34359738368 t)->FinR G id v code zli (.c (vec (G.next+0) u (ts.map zd) junk)) (E (Rd.go G id v code q3) ((u,ts.map zd++junk)::l)):=λts u junk l h1 h2=>
   .f hq3 ⟨ts,h1,h2,rfl⟩ (wav (G:=Rd.go G id v code q3) (k:=0) rfl (jgx _) (yaf _))
  cases b3
  ·repeat' first|refine X ?_|exact yaF|refine yaS ?_ ?_<;>intro _
   exact .ret rfl (fin ts u junk _ htl htb)
  ·cases ts with
   |nil=>
    repeat' first|refine X ?_|exact yaF|refine yaS ?_ ?_<;>intro _
    exact .ret rfl (fin [] u junk _ htl htb)
   |cons t0 ts=>
    have hz0:(0:Int)=((0:Nat):Int):=rfl;have h0:0<((t0::ts).map zd).length:=gx;have hg:(E (Rd.go G id v code q3) [(u,(t0::ts).map zd++junk)]).get (G.next+0)=some (u,(t0::ts).map zd++junk):=jck (G:=Rd.go G id v code q3) (k:=0) rfl;have hev:((t0::ts).map zd++junk)[0+0]?=some (zd t0):=rfl;repeat' first|refine X ?_|((first|apply yG|apply yH|apply yI);exact rfl;(first|exact wq rfl rfl hz0 h0 hg hev rfl|exact zl (k:=0) rfl rfl rfl rfl hev rfl gz))|exact yaF|refine yaS ?_ ?_<;>intro _
    refine .ret rfl (fin (⟨t0.table,t0.event,t0.when_,[120],t0.terms⟩::ts) u junk _ htl λx hx=>?_);rcases List.mem_cons.1 hx with rfl|hx
    ·have:=htb t0 gx;exact⟨this.1,this.2.1,by show([120]:List UInt8).length<=_;simp,this.2.2.2⟩
    ·exact htb x (List.mem_cons_of_mem _ hx)
def jli(r:AV):Prop:=∃(s:List wc) (ts:List je) (db:List Data) (x:Stmt),SchD s/\(ts.length<=3/\∀t∈ts,jap 34359738368 t)/\(dbF s db=true\/db=[])/\zfb 34359738368 x/\r=.tup [.c (.fz (s.map ja)),.c (.fz (ts.map zd)),.c (.fz (db.map wa)),.agg (zg x)]
theorem zj2{fr:Fr}{l:List (Nat×List (List Ce))}{t0 t1 t2 t3 k3 v3 i3 j3 s3:Nat}{g3:Bool}{es3:List (List Ce)}{e3:List Ce}{x0 x1 x2 x3:AV}(h0:look fr t0=some x0)(h1:look fr t1=some x1)(h2:look fr t2=some x2)
 (hp:look fr t3=some (.c (.ptr (G.next+k3) v3 i3 j3))) (hl:l[k3]?=some (v3,es3)) (he:es3[i3]?=some e3) (hj:j3<=e3.length) (hx:wbw g3 s3 (e3.drop j3)=some x3):
 retv fr (E G l) [.t t0,.t t1,.t t2,.m t3 g3 s3]=some (.tup [x0,x1,x2,x3]):=by
 simp[retv,revs,RV.ev,h0,h1,h2,hp,jb.at_,E_at,hl,he,hj,hx]
theorem wen(code:List UInt8)(hc:code.length<=1048576):Told Tryz.prog 50 [.c (.fz (code.map encB))] jli:=by
 refine Told.run mixed zb8 gz λG hS=>?_;clear hS;repeat' first|refine yaN ?_|exact yaF|refine yaS ?_ ?_<;>intro _
 refine .call _ rfl rfl rfl (jjm code (E G [(0,[z6])])) ?_;rintro r V ⟨rfl,rfl⟩;rw[zjn hc];have hr:=wjm (G:=E G [(0,[z6])]) hc;repeat' first|refine yaN ?_|exact yaF|refine yaS ?_ ?_<;>intro _
 refine Go.drawn hr (yac _) rfl rfl rfl zjj ?_;rintro _ q hq ⟨s,hs,rfl⟩;repeat' first|refine yaN ?_|exact yaF|refine yaS ?_ ?_<;>intro _
 refine Go.drawn hr hq rfl rfl rfl (jk6 s 4 gb gb hs) ?_;rintro _ q2 hq2 ⟨db,hd,rfl⟩;repeat' first|refine yaN ?_|exact yaF|refine yaS ?_ ?_<;>intro _
 refine Go.drawn hr hq2 rfl rfl rfl (wk8 s hs) ?_;rintro _ q3 hq3 ⟨x,hx,rfl⟩;repeat' first|apply Go.seq|apply Go.skip|apply Go.region|apply Go.nil|apply Go.block|apply Go.blk|apply Go.segs|(apply Go.exit;exact rfl)|(apply Go.cond true;exact rfl)|(apply Go.cond false;exact rfl)|apply yB|apply yC|((first|apply yG|apply yH|apply yI);exact rfl;(first|exact yJ|exact yK rfl rfl|exact yL rfl|exact yM rfl|exact rfl|exact aL rfl rfl rfl rfl rfl|exact aS rfl rfl rfl rfl rfl rfl rfl))|((first|apply yN|apply yO|apply yP);exact rfl)|exact yaF|(((first|apply yT|apply yU|apply yV|apply yW);exact rfl;(first|exact .d|exact .e|exact .n|((fail_if_success exact bqt);(fail_if_success exact bqf);exact .b)))<;>intro _)
 apply Go.draw;refine Go.qr [(0,[zg x])] rfl ?_;repeat' first|(apply Qx.op;exact rfl;(first|exactλ_ _ _=>rfl|exact wck (k:=0) rfl rfl rfl rfl rfl))
 refine Qx.drawn hr hq3 rfl rfl rfl (jif s hs) ?_;rintro _ q4 hq4 ⟨ts,ht1,ht2,rfl⟩;repeat' first|(apply Qx.op;exact rfl;(first|exactλ_ _ _=>rfl|exact wck (k:=0) rfl rfl rfl rfl rfl))
 refine .nil ?_;rw[jjv];show Go _ _ _ _ _ _ _ (E (E G [(0,[z6])]) [(0,rdB code q4),(0,[zg x])]);rw[show E (E G [(0,[z6])]) [(0,rdB code q4),(0,[zg x])]=E G [(0,[z6]),(0,rdB code q4),(0,[zg x])] by rw[E_E];rfl];repeat' first|refine yaN ?_|exact yaF|refine yaS ?_ ?_<;>intro _
 refine .ret (zj2 (k3:=0) (x0:=.c (.fz (s.map ja))) (x1:=.c (.fz (ts.map zd))) (x2:=.c (.fz (db.map wa))) (x3:=.agg (zg x)) rfl rfl rfl rfl rfl rfl (yac _) rfl) ⟨_,⟨s,ts,db,x,hs,⟨ht1,ht2⟩,hd,hx,rfl⟩,_,rfl,.tup rfl λi hi=>?_⟩;have:i=0\/i=1\/i=2\/i=3:=by simp at hi;omega
 rcases this with rfl|rfl|rfl|rfl
 ·exact .c (.same _ (jl (jff _)))
 ·exact .c (.same _ (jl (jgx _)))
 ·exact .c (.same _ (jl (wag _)))
 ·exact .refl (zjw x)
end Go.Proofs.YtedaadaaibofaaaGreat.Am
namespace Go.Proofs.YtedaadaaibofaaaGreat.Am
open Go.RowKit Go.ChangeShapes Go.WideShapes

section
variable {H:Type}{enc:TypeId×Value->H}{W:World}
theorem zbq.isoG{P:Program}{t:TypeId}{α β:Type}{e:β->List Ce}{good:β->Prop}(h:zbq enc P W t e good)(g:β->α){e':α->List Ce}{good':α->Prop}(he:∀b,good b->e' (g b)=e b)(hg:∀b,good b->good' (g b)):zbq enc P W t e' good':=by
 constructor;intro fuel cs x h1 h2;obtain⟨a,h3,hl,h4⟩:=h.op fuel cs x h1 h2;refine⟨g a,hg a h3,by rw[he a h3];exact hl,λi hi=>?_⟩;simp only[he a h3];exact h4 i (by rw[he a h3]at hi;exact hi)
theorem jln:zbq enc Tryz.prog W 5 encB (λ_=>True):=
 (zbq.int Tryz.underlying5).isoG (λn=>UInt8.ofNat n.toNat) (λn hn=>by
   have h1:IntKind.u8.min=0:=gb;have h2:IntKind.u8.max=255:=gb;simp only[Lit.wf,h1,h2,Bool.and_eq_true,decide_eq_true_eq]at hn;have h3:(UInt8.ofNat n.toNat).toNat=n.toNat:=UInt8.toNat_ofNat_of_lt' (by show n.toNat<256;omega);simp only[encB,h3,List.cons.injEq,Ce.int.injEq,true_and,and_true];omega) λ_ _=>trivial
theorem wli:zbq enc Tryz.prog W 72 (λl:List UInt8=>[.fz (l.map encB)]) (λl=>l.length<=140737488351232):=
 (zbq.slice (s:=1) Tryz.underlying72 jln (by kernel_rfl) gb (λ_=>rfl)).iso id (λ_=>rfl) λl h=>yai (Nat.le_mul_of_pos_right _ (of_decide_eq_true (by kernel_rfl))) h.1
end
end Go.Proofs.YtedaadaaibofaaaGreat.Am
