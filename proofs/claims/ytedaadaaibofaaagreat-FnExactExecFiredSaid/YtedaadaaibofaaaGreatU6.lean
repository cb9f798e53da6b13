/- Joined texts: A32, A33, A34, A29, A30, A35, A36, A37, C3, A38, A31, A39, A22, M5, M6, T1, T2, T3. -/
import Derived.KernelRfl
import Derived.Test.YtedaadaaibofaaaGreatU1
import Derived.Test.YtedaadaaibofaaaGreatU2
import Derived.Test.YtedaadaaibofaaaGreatU3
import Derived.Test.YtedaadaaibofaaaGreatU4
import Derived.Test.YtedaadaaibofaaaGreatU5
set_option maxHeartbeats 1000000
set_option linter.unusedVariables false
set_option linter.unusedSimpArgs false
namespace Go.Proofs.YtedaadaaibofaaaGreat.Am
def zik(l:List we)(i:Int):we:=match l[i.toNat]? with|some x=>x|none=>⟨[],0,[],[],[]⟩
variable {l:List we}{i:Int}{n:Nat}
theorem jik(hi:i=(n:Int))(hn:n<l.length):zik l i=l[n]:=by
 subst hi;rw[zik,ybh,yag hn]
def jbw(row:List Val):List Term->List Val->Option (List Val)
 |[],acc=>some acc
 |t::r,acc=>if(za5 t.expr row).2=true then jbw row r (acc++[(za5 t.expr row).1])else none
def wma(run:Nat->List Val->List Data->Res)(k:Nat)(vals:List Val)(q:Ins):Res:=if q.2.2=0 then run k vals q.1 else([],q.2.2)
def zkg(run:Nat->List Val->List Data->Res)(s:List zd)(k:Nat)(vals:List Val)(db:List Data):Res:=if fitF (tabN s k) vals=true then wma run k vals (insF (chgF s 12) s k vals false db)else([],8)
def wcd(run:Nat->List Val->List Data->Res)(s:List zd)(row:List Val)(x:we)(db:List Data):Res:=match jbw row x.terms []with
 |none=>([],8)
 |some vals=>zkg run s (idxA (λu:zd=>u.name==x.into) s 0).toNat vals db
def jcn(one:Int->List Data->Res):List Int->List Data->Res
 |[],db=>(db,0)
 |i::r,db=>if(one i db).2=0 then jcn one r (one i db).1 else([],(one i db).2)
def zbm(s:List zd)(l:List we):Nat->Nat->Int->List Val->List Val->List Data->Res
 |0,k,ev,old,now,db=>if jah (tabN s k) l ev old now=[]then(db,0)else([],6)
 |d+1,k,ev,old,now,db=>jcn (λi=>wcd (λk vals=>zbm s l d k 1 [] vals) s (zaz (tabN s k).cols.length old now) (zik l i)) (jah (tabN s k) l ev old now) db
theorem zgu{p:we->Bool}:∀{l:List we} {j:Int} {acc:List Int} {i:Int},i∈za8 p l j acc->i∈acc\/∃n,∃h:n<l.length,i=j+(n:Int)/\p l[n]=true
 |[],j,acc,i,h=>.inl h
 |x::l,j,acc,i,h=>by
  rw[za8]at h;rcases zgu h with h|⟨n,hn,h1,h2⟩
  ·split at h
   ·rename_i hp;rcases List.mem_append.1 h with h|h
    ·exact .inl h
    ·exact .inr ⟨0,gx,by rw[List.mem_singleton.1 h];simp,hp⟩
   ·exact .inl h
  ·exact .inr ⟨n+1,by simpa using hn,O,h2⟩
variable {t:zd}{ev:Int}{old now:List Val}
theorem wik(h:i∈jah t l ev old now):∃n,∃hn:n<l.length,i=(n:Int)/\l[n].table=t.name:=by
 rw[jah]at h;rcases zgu h with h|⟨n,hn,h1,h2⟩
 ·cases h
 ·refine⟨n,hn,O, ?_⟩;rw[jat,yat,beq_iff_eq]at h2;exact h2.1
theorem jgu{p:we->Bool}:∀{l:List we} {j:Int} {acc:List Int},(za8 p l j acc).length<=acc.length+l.length
 |[],_,_=>ybl _ _
 |x::l,j,acc=>by
  rw[za8];refine yaf jgu ?_;split<;>simp<;>omega
theorem zjl:(jah t l ev old now).length<=l.length:=by
 have:=jgu (p:=jat t ev (zaz t.cols.length old now)) (l:=l) (j:=0) (acc:=[]);rw[jah];simpa using this
structure TrG(s:List zd)(m:Nat)(hm:m<s.length)(x:we):Prop where
 into:∃k,∃_:k<s.length,idxA (λu:zd=>u.name==x.into) s 0=(k:Int)
 len:x.terms.length<=8
 terms:∀y∈x.terms,war y.expr (2*s[m].cols.length)=true
 when_:wbt x.when_ (2*s[m].cols.length)=true
variable {s:List zd}
theorem trG(hT:wl s l=true){m:Nat}(hm:m<s.length){x:we}(hx:x∈l)(ht:x.table=s[m].name):TrG s m hm x:=by
 obtain⟨h1,_,h2⟩:=jbe hT;have h3:=h2 x hx;rw[wbv,wm8 h1 hm ht]at h3;rcases jdb (λu:zd=>u.name==x.into) s 0 with⟨h4,_⟩|⟨k,hk,h4,_⟩
 ·rw[zb2 h4]at h3
  cases h3
 ·have h5:idxA (λu:zd=>u.name==x.into) s 0=(k:Int):=by rw[h4];omega
  rw[wa5 h5 hk]at h3;have hc:=(wbi h1 _ (yaa hk)).2;simp only[ze4,zhj,Bool.and_eq_true,decide_eq_true_eq,Bool.not_eq_true',List.any_eq_false]at h3;obtain⟨_,h6,h7,h8⟩:=h3;exact⟨⟨k,hk,h5⟩,O,λy hy=>by simpa using h8 y hy,h6⟩
structure RowO(t:zd)(v:List Val):Prop where
 len:v=[]\/v.length=t.cols.length
 oks:∀w∈v,ju w=true
theorem wdc:RowO t []:=⟨.inl rfl,λw hw=>by cases hw⟩
theorem jkr{v:List Val}(h:fitF t v=true):RowO t v:=⟨.inr (wax h).1,(wax h).2⟩
theorem jkg(hs:SchG s){k:Nat}(hk:k<s.length){vals:List Val}(hf:fitF s[k] vals=true){db:List Data}(h:DbG BI s db)(h0:(insF (chgF s 12) s k vals false db).2.2=0):DbG BI s (insF (chgF s 12) s k vals false db).1:=
 zl8 hs hk ⟨(wax hf).1,zck hf (hs.tab _ (yaa hk)).cols8⟩ (whn h hk) h0
structure RunG(s:List zd)(run:Nat->List Val->List Data->Res):Prop where
 keep:∀k (hk:k<s.length) vals,fitF s[k] vals=true->∀db,DbG BI s db->(run k vals db).2=0->DbG BI s (run k vals db).1
 cod:∀k vals db,0<=(run k vals db).2
theorem jew(hs:SchG s){run:Nat->List Val->List Data->Res}(hr:RunG s run){row:List Val}{m:Nat}{hm:m<s.length}{x:we}(hx:TrG s m hm x){db:List Data}(h:DbG BI s db)(h0:(wcd run s row x db).2=0):DbG BI s (wcd run s row x db).1:=by
 obtain⟨k,hk,hi⟩:=hx.into;revert h0;rw[wcd]
 cases jbw row x.terms []with
 |none=>exactλh=>by cases h
 |some vals=>
  show(zkg run s (idxA (λu:zd=>u.name==x.into) s 0).toNat vals db).2=0->DbG BI s (zkg run s (idxA (λu:zd=>u.name==x.into) s 0).toNat vals db).1;rw[hi,ybh,zkg,zr hk];by_cases hf:fitF s[k] vals=true
  ·rw[if_pos hf,wma];by_cases h2:(insF (chgF s 12) s k vals false db).2.2=0
   ·rw[if_pos h2];exact hr.keep k hk vals hf _ (jkg hs hk hf h h2)
   ·rw[if_neg h2];exactλh=>absurd h h2
  ·rw[if_neg hf];exactλh=>by cases h
theorem zmb{run:Nat->List Val->List Data->Res}(hr:RunG s run){row:List Val}{x:we}{db:List Data}:0<=(wcd run s row x db).2:=by
 rw[wcd];split
 ·exact Int.le_of_lt gb
 ·rw[zkg];split
  ·rw[wma];split
   ·exact hr.cod _ _ _
   ·exact wfn
  ·exact Int.le_of_lt gb
theorem who{s:List zd}{one:Int->List Data->Res}:∀{l:List Int},(∀i∈l,∀db,DbG BI s db->(one i db).2=0->DbG BI s (one i db).1)->∀{db:List Data},DbG BI s db->(jcn one l db).2=0->DbG BI s (jcn one l db).1
 |[],_,db,h,_=>h
 |i::r,ho,db,h,h0=>by
  rw[jcn]at h0⊢;by_cases h1:(one i db).2=0
  ·rw[if_pos h1]at h0⊢;exact who (λj hj=>ho j (by simp[hj])) (ho i gx db h h1) h0
  ·rw[if_neg h1]at h0;exact absurd h0 h1
theorem jjl{one:Int->List Data->Res}(h:∀i db,0<=(one i db).2):∀{l:List Int} {db:List Data},0<=(jcn one l db).2
 |[],db=>yaxq _
 |i::r,db=>by
  rw[jcn];split
  ·exact jjl h
  ·exact h i db
theorem wkg(hs:SchG s){l:List we}(hT:wl s l=true){d:Nat}(hr:RunG s λk vals=>zbm s l d k 1 [] vals){k:Nat}(hk:k<s.length){ev:Int}{old now:List Val}{db:List Data}(h:DbG BI s db)(h0:(zbm s l (d+1) k ev old now db).2=0):DbG BI s (zbm s l (d+1) k ev old now db).1:=by
 rw[zbm]at h0⊢;refine who (λi hi db2 h2 h3=>?_) h h0;rw[zr hk]at hi;obtain⟨n,hn,e1,e2⟩:=wik hi;rw[jik e1 hn]at h3⊢;exact jew hs hr (trG hT hk (yaa hn) e2) h2 h3
theorem wed{s:List zd}(hs:SchG s){l:List we}(hT:wl s l=true):∀(d:Nat),(∀{k:Nat} (hk:k<s.length) {ev:Int} {old now:List Val} {db:List Data},DbG BI s db->(zbm s l d k ev old now db).2=0->DbG BI s (zbm s l d k ev old now db).1)/\∀{k:Nat} {ev:Int} {old now:List Val} {db:List Data},0<=(zbm s l d k ev old now db).2
 |0=>by
  refine⟨λ{k} hk {ev old now db} h h0=>?_,λ{k ev old now db}=>?_⟩
  ·rw[zbm]at h0⊢;split
   ·exact h
   ·rename_i hne;rw[if_neg hne]at h0
    cases h0
  ·rw[zbm];split
   ·exact yaxq _
   ·exact Int.le_of_lt gb
 |d+1=>by
  obtain⟨h1,h2⟩:=wed hs hT d;have hr:RunG s λk vals=>zbm s l d k 1 [] vals:=⟨λk hk vals _ db h h0=>h1 hk h h0,λk vals db=>h2⟩;refine⟨λ{k} hk {ev old now db} h h0=>wkg hs hT hr hk h h0,λ{k ev old now db}=>?_⟩;rw[zbm];exact jjl λi db=>zmb hr
theorem runG(hs:SchG s){l:List we}(hT:wl s l=true)(d:Nat):RunG s λk vals=>zbm s l d k 1 [] vals:=⟨λk hk vals _ db h h0=>(wed hs hT d).1 hk h h0,λk vals db=>(wed hs hT d).2⟩
theorem wjl(l:List Term):OldL n (l.map zn):=λe he c hc=>by
 obtain⟨a,_,rfl⟩:=List.mem_map.1 he;simp only[zn,List.mem_cons,List.not_mem_nil,or_false]at hc;subst hc;exact zae (jcc wlx)
theorem wgu(l:List we):OldL n (l.map wc):=λe he c hc=>by
 obtain⟨a,_,rfl⟩:=List.mem_map.1 he;simp only[wc,List.mem_cons,List.not_mem_nil,or_false]at hc;rcases hc with rfl|rfl|rfl|rfl|rfl
 ·exact .str _
 ·exact .int _ _
 ·exact zae (jcc wlx)
 ·exact .str _
 ·exact zae (wjl _)
theorem wc7:∀y∈(AV.c (.fz (l.map wc))).all,Old n y:=λy hy=>by
 simp only[AV.all,List.mem_singleton]at hy;subst hy;exact zae (wgu _)
theorem zil{x:we}:∀y∈(AV.c (.fp (wc x))).all,Old n y:=λy hy=>by
 simp only[AV.all,List.mem_singleton]at hy;subst hy;exact .fp _ λj hj=>wgu [x] _ (List.mem_singleton.2 rfl) _ (yaa hj)
variable {vals:List Val}
theorem zfo{G:wa}{v:Nat}{junk:List (List Ce)}:FrzV (E G ([]++[(v,vals.map encV++junk)])) (G.next+([]:List (Nat×List (List Ce))).length) (.c (vec (G.next+0) v (vals.map encV) junk)) (.c (.fz (vals.map encV))):=jbu (k:=0) rfl (λe he x hx=>((jcq e he).2 x hx).old _) (yai _)
variable {d:List Data}
theorem jmb:resI (d,i,0)=.tup [.c (.fz (d.map jb)),.c (.int .i64 i),.c (.int .i64 0)]:=rfl
theorem wnx{c:Int}(h:¬c=0):resI (d,i,c)=.tup [.c .nils,.c (.int .i64 i),.c (.int .i64 c)]:=by rw[resI,if_neg h]
set_option maxHeartbeats 4000000 in
theorem zny(hs:SchG s){l:List we}(hT:wl s l=true){run:Nat->List Val->List Data->Res}(hr:RunG s run){k:Nat}(hk:k<s.length)(ev:Int)(old now:List Val)(ho:RowO s[k] old)(hw:RowO s[k] now)(db:List Data)(h:DbG BI s db)(deep:Int)(h0:0<=deep)(h6:deep<6)
 (ih:∀{j:Nat} (hj:j<s.length) (vals:List Val),fitF s[j] vals=true->∀db,DbG BI s db->Pure Tryz.prog 165 [.c (.fz (s.map ja)),.c (.fz (l.map wc)),.c (.fz (db.map jb)),.c (.int .i64 (j:Int)),.c (.int .i64 1),.c .nils,.c (.fz (vals.map encV)),.c (.int .i64 (IntKind.i64.wrap (deep+1)))] (resV (run j vals db)))
 (hn:jah s[k] l ev old now≠[]) (G:wa) (hS:OldS G):
 Go Tryz.prog G.next zu.nt zu.rets (Fin G (resV (jcn (λi=>wcd run s (zaz s[k].cols.length old now) (zik l i)) (jah s[k] l ev old now) db))) [.code zu.body]
  (frOf 0 [.c (.fz (s.map ja)),.c (.fz (l.map wc)),.c (.fz (db.map jb)),.c (.int .i64 (k:Int)),.c (.int .i64 ev),.c (.fz (old.map encV)),.c (.fz (now.map encV)),.c (.int .i64 deep)]) (E G []):=by
 obtain⟨hsch,hl6,_⟩:=jbe hT;have hc8:=(hs.tab _ (yaa hk)).cols8;have c0:=NewV.pure (zew s l (k:Int) k ev old now rfl hk hc8 (yaf hl6 gb) ho.len hw.len ho.oks hw.oks λx hx ht=>(trG hT hk hx ht).when_);have cB:=wjk s[k] old now hc8 ho.len hw.len;have hbl:(zaz s[k].cols.length old now).length=2*s[k].cols.length:=by rw[zaz,yba,jbg ho.len,jbg hw.len];omega
 have hbo:Oks (zaz s[k].cols.length old now):=λv hv=>by
  rcases List.mem_append.1 hv with hv|hv
  ·exact jdc ho.oks v hv
  ·exact jdc hw.oks v hv
 have hat:=λi (hi:i∈jah s[k] l ev old now)=>wik hi;have hlen:=zjl (t:=s[k]) (l:=l) (ev:=ev) (old:=old) (now:=now);generalize jah s[k] l ev old now=ids at c0 hat hn hlen⊢;generalize zaz s[k].cols.length old now=row at cB hbl hbo⊢;have hpos:0<ids.length:=List.length_pos_iff.2 hn;repeat' first|refine X ?_|refine yaC (c0) ?_|exact yaF|refine Y ?_ ?_<;>intro _
 all_goals first
  |(exfalso;simp_all;omega)
  |contradiction
  |skip
 clear c0;obtain⟨one,hone⟩:∃one,one=λi=>wcd run s row (zik l i):=⟨_,rfl⟩;rw[<-hone]
 refine Go.keep [0,1,2,3,5,6,7,18,19] (Go.loops (I:=λm fr V=>∃(i:Nat) (ki:Int) (cur:List Data),m=ids.length-i/\i<=ids.length/\ki=i/\(DbG BI s cur/\jcn one ids db=jcn one (ids.drop i) cur)/\
  fr=[(0,.c (.fz (s.map ja))),(1,.c (.fz (l.map wc))),(2,.c (.fz (cur.map jb))),(3,.c (.int .i64 (k:Int))),(5,.c (.fz (old.map encV))),(6,.c (.fz (now.map encV))),(7,.c (.int .i64 deep)),(18,.c (.fz (ids.map encI))),(19,.c (.int .i64 ki))]/\V=E G []) ?_ _ _ _ ⟨0,_,db,rfl,yad _,rfl,⟨h,rfl⟩,rfl,rfl⟩)
 rintro m fr V ⟨i,ki,cur,rfl,hi,hki,⟨hcur,hst⟩,rfl,rfl⟩ hrec;by_cases hlt:i<ids.length
 ·obtain⟨j,hj,hij,hjt⟩:=hat _ (yaa hlt);have hG:=trG hT hk (yaa hj) hjt;obtain⟨to,hto,hit⟩:=hG.into;have cA:=jc1 s l[j].into (yaf hs.few gb);rw[hit]at cA;have hc8t:=(hs.tab _ (yaa hto)).cols8;rw[yab hlt,jcn]at hst;have hon:one ids[i] cur=wcd run s row l[j] cur:=by rw[hone];show wcd run s row (zik l ids[i]) cur=_;rw[jik hij hj]
  rw[hon]at hst;have hko:(wcd run s row l[j] cur).2=0->DbG BI s (wcd run s row l[j] cur).1:=λh0=>jew hs hr hG hcur h0;rw[wcd,hit,ybh]at hst hko;repeat' first|refine X ?_|((first|apply yG|apply yH|apply yI);exact rfl;(first|exact yax encI hki hlt|exact yax wc hij hj))|refine yaC (cA) ?_|exact yaF|refine Y ?_ ?_<;>intro _
  refine Go.keep [0,1,2,3,5,6,7,18,19,20,21,22,23] (Go.loops (I:=λm fr V=>∃(q:Nat) (kq:Int) (acc:List Val) (v:Nat) (junk:List (List Ce)),m=l[j].terms.length-q/\q<=l[j].terms.length/\kq=q/\Jk 3 junk/\(acc.length=q/\jbw row l[j].terms []=jbw row (l[j].terms.drop q) acc)/\
   fr=[(0,.c (.fz (s.map ja))),(1,.c (.fz (l.map wc))),(2,.c (.fz (cur.map jb))),(3,.c (.int .i64 (k:Int))),(5,.c (.fz (old.map encV))),(6,.c (.fz (now.map encV))),(7,.c (.int .i64 deep)),(18,.c (.fz (ids.map encI))),(19,.c (.int .i64 ki)),(20,.c (.fp (wc l[j]))),(21,.c (.int .i64 (to:Int))),(22,.c (vec (G.next+0) v (acc.map encV) junk)),(23,.c (.int .i64 kq))]/\V=E G [(v,acc.map encV++junk)]) ?_ _ _ _ ⟨0,_,[],0,[],rfl,yad _,rfl,Jk.nil,⟨rfl,rfl⟩,rfl,rfl⟩)
  rintro m fr V ⟨q,kq,acc,v,junk,rfl,hq,hkq,hj3,⟨hal,htm⟩,rfl,rfl⟩ hrec2;by_cases hqt:q<l[j].terms.length
  ·clear hrec;have hlt8:=hG.len;have hex:=hG.terms _ (yaa hqt);rw[show(2*(s[k].cols.length:Int))=(row.length:Int) by omega]at hex;obtain⟨he1,he2⟩:=zbi hex;have cE:=zgj l[j].terms[q].expr row O O hbo he2;rw[yab hqt,jbw]at htm;generalize za5 l[j].terms[q].expr row=ev at cE htm;obtain⟨w,b⟩:=ev;simp only at cE htm;have hz3:∀e∈acc.map encV,e.length=3:=λe he=>(jcq e he).1;have hbd:((acc.map encV).length+1)*32<=140737488355328:=by rw[yae];omega
   have e1:acc.map encV++[encV w]=(acc++[w]).map encV:=gx
   cases b
   ·rw[if_neg yah]at htm;rw[htm]at hst;simp only at hst;rw[if_neg gb]at hst;rw[hst];repeat' first|apply Go.seq|apply Go.skip|apply Go.region|apply Go.nil|apply Go.block|apply Go.blk|apply Go.segs|(apply Go.exit;exact rfl)|(apply Go.cond true;exact rfl)|(apply Go.cond false;exact rfl)|apply yB|apply yC|((first|apply yD|apply yE);(first|exact yF|assumption);iterate 6 exact rfl)|((first|apply yG|apply yH|apply yI);exact rfl;(first|exact yJ|exact yK rfl rfl|exact yL rfl|exact yM rfl|exact rfl|exact aL rfl rfl rfl rfl rfl|exact aS rfl rfl rfl rfl rfl rfl rfl))|((first|apply yN|apply yO|apply yP);exact rfl)|exact yaF|(((first|apply yT|apply yU|apply yV|apply yW);exact rfl;(first|exact .d|exact .e|exact .n|((fail_if_success exact bqt);(fail_if_success exact bqf);exact .b)))<;>intro _)
    apply Go.draw;refine Go.qkd [(v,acc.map encV++junk)] ?_;repeat' first|(apply Qk.nil;show Go _ _ _ _ _ _ _ _)|(apply Qk.op;exact rfl;(first|(rintro _ ⟨_,rfl⟩;exact rfl)|(rintro _ ⟨_,rfl⟩;exact jau rfl rfl rfl (yak rfl) rfl)|(rintro _ ⟨_,rfl⟩;exact yax zn hkq hqt)|(rintro _ ⟨_,rfl⟩;exact yax ja rfl hk)))|(apply Qk.no;exact rfl)|(apply Qk.pcall;(iterate 3 exact rfl);(first|exact cB|exact cE))|(apply Qk.wop;exact rfl;exact rfl;(first|exact yJ|exact yL rfl|exact jm rfl rfl rfl rfl rfl rfl (yak rfl));exact⟨_,rfl⟩)
    repeat' first|refine X ?_|exact yaF|refine Y ?_ ?_<;>intro _
    exact .ret rfl (Fin.same rfl (zg ([],8) _))
   ·rw[if_pos rfl]at htm;repeat' first|apply Go.seq|apply Go.skip|apply Go.region|apply Go.nil|apply Go.block|apply Go.blk|apply Go.segs|(apply Go.exit;exact rfl)|(apply Go.cond true;exact rfl)|(apply Go.cond false;exact rfl)|apply yB|apply yC|((first|apply yD|apply yE);(first|exact yF|assumption);iterate 6 exact rfl)|((first|apply yG|apply yH|apply yI);exact rfl;(first|exact yJ|exact yK rfl rfl|exact yL rfl|exact yM rfl|exact rfl|exact aL rfl rfl rfl rfl rfl|exact aS rfl rfl rfl rfl rfl rfl rfl))|((first|apply yN|apply yO|apply yP);exact rfl)|exact yaF|(((first|apply yT|apply yU|apply yV|apply yW);exact rfl;(first|exact .d|exact .e|exact .n|((fail_if_success exact bqt);(fail_if_success exact bqf);exact .b)))<;>intro _)
    apply Go.draw;refine Go.qkd [(v,acc.map encV++junk)] ?_;repeat' first|(apply Qk.nil;show Go _ _ _ _ _ _ _ _)|(apply Qk.op;exact rfl;(first|(rintro _ ⟨_,rfl⟩;exact rfl)|(rintro _ ⟨_,rfl⟩;exact jau rfl rfl rfl (yak rfl) rfl)|(rintro _ ⟨_,rfl⟩;exact yax zn hkq hqt)|(rintro _ ⟨_,rfl⟩;exact yax ja rfl hk)))|(apply Qk.no;exact rfl)|(apply Qk.pcall;(iterate 3 exact rfl);(first|exact cB|exact cE))|(apply Qk.wop;exact rfl;exact rfl;(first|exact yJ|exact yL rfl|exact jm rfl rfl rfl rfl rfl rfl (yak rfl));exact⟨_,rfl⟩)
    repeat' first|refine X ?_|(refine Go.app1 (k:=0) (z:=encV w) rfl rfl rfl rfl rfl hz3 hj3 rfl hbd λv' junk' hj'=>?_)|exact yaF|refine Y ?_ ?_<;>intro _
    rw[e1];refine Go.keep [0,1,2,3,5,6,7,18,19,20,21,22,23] ?_
    refine Go.freezeN (l:=[(v',(acc++[w]).map encV++junk')]) (m:=[(0,[encV w])]) (fr':=[(0,.c (.fz (s.map ja))),(1,.c (.fz (l.map wc))),(2,.c (.fz (cur.map jb))),(3,.c (.int .i64 (k:Int))),(5,.c (.fz (old.map encV))),(6,.c (.fz (now.map encV))),(7,.c (.int .i64 deep)),(18,.c (.fz (ids.map encI))),(19,.c (.int .i64 ki)),(20,.c (.fp (wc l[j]))),(21,.c (.int .i64 (to:Int))),(22,.c (vec (G.next+0) v' ((acc++[w]).map encV) junk')),(23,.c (.int .i64 (IntKind.i64.wrap (kq+1))))]) hS (λb hb e he x hx=>?_) (yai _)
     (.frz rfl (.refl wa7) (.frz rfl (.refl wc7) (.frz rfl (.refl jbj) (.frz rfl (.refl wu) (.frz rfl (.refl w7) (.frz rfl (.refl w7) (.frz rfl (.refl wu) (.frz rfl (.refl wdb) (.frz rfl (.refl wu) (.frz rfl (.refl zil) (.frz rfl (.refl wu) (.frz rfl (.refl (je0 gx)) (.frz rfl (.refl wu) .nil))))))))))))) ?_
    ·rw[List.mem_singleton.1 hb]at he;rcases List.mem_append.1 he with he|he
     ·exact((jcq e he).2 x hx).old _
     ·exact((hj' e he).2 x hx).old _
    exact hrec2 _ _ _ O ⟨q+1,_,acc++[w],v',junk',rfl,hqt,wb hkq O,hj',⟨by rw[yba,hal];rfl,htm⟩,rfl,rfl⟩
  ·clear hrec2;rw[yac O,jbw]at htm;rw[htm]at hst hko;simp only at hst hko;have hlt8:=hG.len
   refine Go.freezeN (l:=[]) (m:=[(v,acc.map encV++junk)]) (fr':=[(0,.c (.fz (s.map ja))),(1,.c (.fz (l.map wc))),(2,.c (.fz (cur.map jb))),(3,.c (.int .i64 (k:Int))),(5,.c (.fz (old.map encV))),(6,.c (.fz (now.map encV))),(7,.c (.int .i64 deep)),(18,.c (.fz (ids.map encI))),(19,.c (.int .i64 ki)),(20,.c (.fp (wc l[j]))),(21,.c (.int .i64 (to:Int))),(22,.c (.fz (acc.map encV))),(23,.c (.int .i64 kq))]) hS (λb hb=>by cases hb) (yai _)
    (.frz rfl (.refl wa7) (.frz rfl (.refl wc7) (.frz rfl (.refl jbj) (.frz rfl (.refl wu) (.frz rfl (.refl w7) (.frz rfl (.refl w7) (.frz rfl (.refl wu) (.frz rfl (.refl wdb) (.frz rfl (.refl wu) (.frz rfl (.refl zil) (.frz rfl (.refl wu) (.frz rfl zfo (.frz rfl (.refl wu) .nil))))))))))))) ?_
   have c5:=jda s[to] acc O;rw[zkg,zr hto]at hst hko
   cases hf:fitF s[to] acc
   ·rw[hf]at c5;rw[hf,if_neg yah,if_neg gb]at hst;rw[hst];repeat' first|refine X ?_|((first|apply yG|apply yH|apply yI);exact rfl;(first|exact yax ja rfl hto))|refine yaC (c5) ?_|exact yaF|refine Y ?_ ?_<;>intro _
    all_goals first
     |contradiction
     |exact .ret rfl (Fin.same rfl (zg ([],8) _))
     |(exfalso;simp_all;done)
   ·rw[hf]at c5;rw[hf,if_pos rfl,wma]at hst hko;have c6:=we3 hs hto acc false cur rfl (whn hcur hto) (wax hf).1 (zck hf hc8t);rw[if_neg yah]at c6;have hkp:=jkg hs hto hf hcur;have hcd:=wfn (s:=s) (k:=to) (vals:=acc) (rep:=false) (db:=cur);generalize insF (chgF s 12) s to acc false cur=p at c6 hkp hcd hst hko;obtain⟨pd,pi,pc⟩:=p;simp only at hkp hcd hst hko;by_cases hpc:pc=0
    ·subst hpc;rw[jmb]at c6;have hpd:=hkp rfl;rw[if_pos rfl]at hst hko;have c7:=ih hto acc hf pd hpd;have hcd7:=hr.cod to acc pd;generalize run to acc pd=p2 at c7 hst hko hcd7;obtain⟨d2,e2⟩:=p2;simp only at hst hko hcd7;by_cases he2:e2=0
     ·subst he2;rw[wgs]at c7;rw[if_pos rfl]at hst;repeat' first|refine X ?_|((first|apply yG|apply yH|apply yI);exact rfl;(first|exact yax ja rfl hto))|refine yaC (c5) ?_|refine yaC (c6) ?_|refine yaC (c7) ?_|exact yaF|refine Y ?_ ?_<;>intro _
      all_goals first
       |contradiction
       |exact Go.keep [0,1,2,3,5,6,7,18,19] (hrec _ _ _ O ⟨i+1,_,d2,rfl,hlt,wb hki O,⟨hko rfl,hst⟩,rfl,rfl⟩)
       |(exfalso;simp_all;done)
     ·rw[if_neg he2]at hst;rw[hst];rw[waf (e:=e2) rfl he2]at c7;rw[jan he2];repeat' first|refine X ?_|((first|apply yG|apply yH|apply yI);exact rfl;(first|exact yax ja rfl hto))|refine yaC (c5) ?_|refine yaC (c6) ?_|refine yaC (c7) ?_|exact yaF|refine Y ?_ ?_<;>intro _
      all_goals first
       |contradiction
       |exact .ret rfl (Fin.same rfl (λy hy=>zg ([],e2) _ y (by rw[jan he2];exact hy)))
       |(exfalso;simp_all;done)
    ·rw[if_neg hpc,if_neg hpc]at hst;rw[hst];rw[wnx hpc]at c6;rw[jan hpc];repeat' first|refine X ?_|((first|apply yG|apply yH|apply yI);exact rfl;(first|exact yax ja rfl hto))|refine yaC (c5) ?_|refine yaC (c6) ?_|exact yaF|refine Y ?_ ?_<;>intro _
     all_goals first
      |contradiction
      |exact .ret rfl (Fin.same rfl (λy hy=>zg ([],pc) _ y (by rw[jan hpc];exact hy)))
      |(exfalso;simp_all;done)
 ·rw[yac O,jcn]at hst;rw[hst];repeat' first|refine X ?_|exact yaF|refine Y ?_ ?_<;>intro _
  exact .ret rfl (Fin.same rfl (zg (cur,0) _))
theorem wmb(hs:SchG s){l:List we}(hT:wl s l=true){k:Nat}(hk:k<s.length)(ev:Int)(old now:List Val)(ho:RowO s[k] old)(hw:RowO s[k] now)(db:List Data)(deep:Int)(hn:jah s[k] l ev old now=[])(G:wa)(hS:OldS G):
 Go Tryz.prog G.next zu.nt zu.rets (Fin G (resV (db,0))) [.code zu.body]
  (frOf 0 [.c (.fz (s.map ja)),.c (.fz (l.map wc)),.c (.fz (db.map jb)),.c (.int .i64 (k:Int)),.c (.int .i64 ev),.c (.fz (old.map encV)),.c (.fz (now.map encV)),.c (.int .i64 deep)]) (E G []):=by
 obtain⟨hsch,hl6,_⟩:=jbe hT;have hc8:=(hs.tab _ (yaa hk)).cols8;have c0:=NewV.pure (zew s l (k:Int) k ev old now rfl hk hc8 (yaf hl6 gb) ho.len hw.len ho.oks hw.oks λx hx ht=>(trG hT hk hx ht).when_);rw[hn]at c0;repeat' first|refine X ?_|refine yaC (c0) ?_|exact yaF|refine Y ?_ ?_<;>intro _
 all_goals first
  |contradiction
  |skip
 refine Go.keep [2,18,19] (Go.loops (I:=λm fr V=>m=0/\fr=[(2,.c (.fz (db.map jb))),(18,.c (.fz (([]:List Int).map encI))),(19,.c (.int .i64 0))]/\V=E G []) ?_ _ _ _ ⟨rfl,rfl,rfl⟩);rintro m fr V ⟨rfl,rfl,rfl⟩ hrec;repeat' first|refine X ?_|exact yaF|refine Y ?_ ?_<;>intro _
 exact .ret rfl (Fin.same rfl (zg (db,0) _))
theorem jny(hs:SchG s){l:List we}(hT:wl s l=true){k:Nat}(hk:k<s.length)(ev:Int)(old now:List Val)(ho:RowO s[k] old)(hw:RowO s[k] now)(db:List Data)(hn:jah s[k] l ev old now≠[])(G:wa)(hS:OldS G):
 Go Tryz.prog G.next zu.nt zu.rets (Fin G (resV ([],6))) [.code zu.body]
  (frOf 0 [.c (.fz (s.map ja)),.c (.fz (l.map wc)),.c (.fz (db.map jb)),.c (.int .i64 (k:Int)),.c (.int .i64 ev),.c (.fz (old.map encV)),.c (.fz (now.map encV)),.c (.int .i64 6)]) (E G []):=by
 obtain⟨hsch,hl6,_⟩:=jbe hT;have hc8:=(hs.tab _ (yaa hk)).cols8;have c0:=NewV.pure (zew s l (k:Int) k ev old now rfl hk hc8 (yaf hl6 gb) ho.len hw.len ho.oks hw.oks λx hx ht=>(trG hT hk hx ht).when_);generalize jah s[k] l ev old now=ids at c0 hn;have hpos:0<ids.length:=List.length_pos_iff.2 hn;repeat' first|refine X ?_|refine yaC (c0) ?_|exact yaF|refine Y ?_ ?_<;>intro _
 all_goals first
  |contradiction
  |exact .ret rfl (Fin.same rfl (zg ([],6) _))
  |(exfalso;simp_all;done)
  |(exfalso;simp_all;omega)
theorem zjm{s:List zd}(hs:SchG s){l:List we}(hT:wl s l=true):∀(d:Nat),d<=6->∀{k:Nat} (hk:k<s.length) (ev:Int) (old now:List Val),RowO s[k] old->RowO s[k] now->∀(db:List Data),DbG BI s db->∀(deep:Int),deep=6-(d:Int)->∀(G:wa),OldS G->
 Go Tryz.prog G.next zu.nt zu.rets (Fin G (resV (zbm s l d k ev old now db))) [.code zu.body]
  (frOf 0 [.c (.fz (s.map ja)),.c (.fz (l.map wc)),.c (.fz (db.map jb)),.c (.int .i64 (k:Int)),.c (.int .i64 ev),.c (.fz (old.map encV)),.c (.fz (now.map encV)),.c (.int .i64 deep)]) (E G [])
 |0,h6,k,hk,ev,old,now,ho,hw,db,h,deep,hd,G,hS=>by
  rw[zbm,zr hk];by_cases hn:jah s[k] l ev old now=[]
  ·rw[if_pos hn];exact wmb hs hT hk ev old now ho hw db deep hn G hS
  ·rw[if_neg hn];have e:deep=6:=O;subst e;exact jny hs hT hk ev old now ho hw db hn G hS
 |d+1,h6,k,hk,ev,old,now,ho,hw,db,h,deep,hd,G,hS=>by
  rw[zbm,zr hk];by_cases hn:jah s[k] l ev old now=[]
  ·rw[hn,jcn];exact wmb hs hT hk ev old now ho hw db deep hn G hS
  ·refine zny hs hT (runG hs hT d) hk ev old now ho hw db h deep O O (λ{j} hj vals hf db h=>?_) hn G hS;refine yar jcp λG hS hA=>?_;clear hA
   refine Go.freezeN (l:=[]) (m:=[]) (fr':=frOf 0 [.c (.fz (s.map ja)),.c (.fz (l.map wc)),.c (.fz (db.map jb)),.c (.int .i64 (j:Int)),.c (.int .i64 1),.c (.fz (([]:List Val).map encV)),.c (.fz (vals.map encV)),.c (.int .i64 (IntKind.i64.wrap (deep+1)))]) hS (λb hb=>by cases hb) (yai _)
    (.frz rfl (.refl wa7) (.frz rfl (.refl wc7) (.frz rfl (.refl jbj) (.frz rfl (.refl wu) (.frz rfl (.refl wu) (.frz rfl (.c .nil) (.frz rfl (.refl w7) (.frz rfl (.refl wu) .nil))))))))
    (zjm hs hT d O hj 1 [] vals wdc (jkr hf) db h _ (by rw[jg O O];omega) G hS)
theorem jjm(hs:SchG s){l:List we}(hT:wl s l=true){k:Nat}(hk:k<s.length)(ev:Int)(old now:List Val)(ho:RowO s[k] old)(hw:RowO s[k] now)(db:List Data)(h:DbG BI s db):
 Pure Tryz.prog 165 [.c (.fz (s.map ja)),.c (.fz (l.map wc)),.c (.fz (db.map jb)),.c (.int .i64 (k:Int)),.c (.int .i64 ev),.c (.fz (old.map encV)),.c (.fz (now.map encV)),.c (.int .i64 0)] (resV (zbm s l 6 k ev old now db)):=
 Pure.run mixed jcp gz λG hS _=>zjm hs hT 6 (yai _) hk ev old now ho hw db h 0 rfl G hS
variable {L:ChL}{xs:List Ce}{db:List Data}{V:wa}
theorem ww.ptr(h:ww L n s xs db V):∀y∈(AV.c (.ptr L.c L.vc 0 0)).all,Old V.next y:=wdt h.lc
set_option maxHeartbeats 4000000 in
theorem zm9(hs:SchG s){l:List we}(hT:wl s l=true)(hb:∀x∈l,x.when_.length<=34359738368){run:Nat->List Val->List Data->Res}(hr:RunG s run){k:Nat}(hk:k<s.length)(ev:Int)(old now:List Val)(ho:RowO s[k] old)(hw:RowO s[k] now)(db:List Data)(hdb:DbG BI s db)(xs:List Ce)(V:wa)(h:ww L n s xs db V)(deep:Int)(h0:0<=deep)(h6:deep<6)
 (ih:∀{j:Nat} (hj:j<s.length) (vals:List Val),fitF s[j] vals=true->∀db,DbG BI s db->∀xs V,ww L n s xs db V->Ok Tryz.prog 86 [.c (.ptr L.c L.vc 0 0),.c (.fz (l.map wc)),.c (.int .i64 (j:Int)),.c (.int .i64 1),.c .nils,.c (.fz (vals.map encV)),.c (.int .i64 (IntKind.i64.wrap (deep+1)))] V (Done L n s (run j vals db) V))
 (hn:jah s[k] l ev old now≠[]) (hS:OldS V):
 Go Tryz.prog V.next jj.nt jj.rets (Done L n s (jcn (λi=>wcd run s (zaz s[k].cols.length old now) (zik l i)) (jah s[k] l ev old now) db) V) [.code jj.body]
  (frOf 0 [.c (.ptr L.c L.vc 0 0),.c (.fz (l.map wc)),.c (.int .i64 (k:Int)),.c (.int .i64 ev),.c (.fz (old.map encV)),.c (.fz (now.map encV)),.c (.int .i64 deep)]) V:=by
 obtain⟨hsch,hl6,_⟩:=jbe hT;have hc8:=(hs.tab _ (yaa hk)).cols8;have ho8:old.length<=8:=by
  rcases ho.len with e|e
  ·rw[e];exact yad _
  ·omega
 have hw8:now.length<=8:=by
  rcases hw.len with e|e
  ·rw[e];exact yad _
  ·omega
 have c0:=NewV.pure (wij s l (k:Int) k ev old now rfl hk hc8 (yaf hl6 gb) hb ho8 hw8);have cB:=jkf s[k].cols.length old now hc8 ho8 hw8;have hbl:(zaz s[k].cols.length old now).length=2*s[k].cols.length:=by rw[zaz,yba,jbg ho.len,jbg hw.len];omega
 have hbo:Oks (zaz s[k].cols.length old now):=λv hv=>by
  rcases List.mem_append.1 hv with hv|hv
  ·exact jdc ho.oks v hv
  ·exact jdc hw.oks v hv
 have hba:jt (zaz s[k].cols.length old now) 16=true:=zf.2 ⟨O,hbo⟩;have hat:=λi (hi:i∈jah s[k] l ev old now)=>wik hi;have hlen:=zjl (t:=s[k]) (l:=l) (ev:=ev) (old:=old) (now:=now);generalize jah s[k] l ev old now=ids at c0 hat hn hlen⊢;generalize zaz s[k].cols.length old now=row at cB hbl hbo hba⊢;have hpos:0<ids.length:=List.length_pos_iff.2 hn;repeat' first|refine X ?_|((first|apply yG|apply yH|apply yI);exact rfl;(first|exact jbv h rfl|exact yax ja rfl hk))|refine yaC (c0) ?_|refine yaC (cB) ?_|exact yaF|refine Y ?_ ?_<;>intro _
 all_goals first
  |(exfalso;simp_all;omega)
  |contradiction
  |skip
 clear c0 cB;obtain⟨one,hone⟩:∃one,one=λi=>wcd run s row (zik l i):=⟨_,rfl⟩;rw[<-hone]
 refine Go.keep [0,1,6,16,58,59,60] (Go.loops (I:=λm fr V'=>∃(i:Nat) (ki:Int) (cur:List Data) (xs:List Ce),m=ids.length-i/\i<=ids.length/\ki=i/\(DbG BI s cur/\ww L n s xs cur V'/\Kept n V V'/\jcn one ids db=jcn one (ids.drop i) cur)/\
  fr=[(0,.c (.ptr L.c L.vc 0 0)),(1,.c (.fz (l.map wc))),(6,.c (.int .i64 deep)),(16,.c (.fz (row.map encV))),(58,.c (.fz (ids.map encI))),(59,.c (.int .i64 (ids.length:Int))),(60,.c (.int .i64 ki))]) ?_ _ _ _ ⟨0,_,db,xs,rfl,yad _,rfl,⟨hdb,h,.refl,rfl⟩,rfl⟩)
 clear h hS hdb;rintro m fr V' ⟨i,ki,cur,xs,rfl,hi,hki,⟨hcur,h,hK,hst⟩,rfl⟩ hrec;by_cases hlt:i<ids.length
 ·obtain⟨j,hj,hij,hjt⟩:=hat _ (yaa hlt);have hG:=trG hT hk (yaa hj) hjt;obtain⟨to,hto,hit⟩:=hG.into;have cA:=zav s l[j].into (yaf hs.few gb);rw[hit]at cA;have hc8t:=(hs.tab _ (yaa hto)).cols8;rw[yab hlt,jcn]at hst;have hon:one ids[i] cur=wcd run s row l[j] cur:=by rw[hone];show wcd run s row (zik l ids[i]) cur=_;rw[jik hij hj]
  rw[hon]at hst;have hko:(wcd run s row l[j] cur).2=0->DbG BI s (wcd run s row l[j] cur).1:=λh0=>jew hs hr hG hcur h0;rw[wcd,hit,ybh]at hst hko;refine .old λ_ hSt=>?_;have hN:=hK.next;refine Go.ext ?_ (zdm hSt);repeat' first|apply Go.seq|apply Go.skip|apply Go.region|apply Go.nil|apply Go.block|apply Go.blk|apply Go.segs|(apply Go.exit;exact rfl)|(apply Go.cond true;exact rfl)|(apply Go.cond false;exact rfl)|apply yB|apply yC|((first|apply yD|apply yE);(first|exact yF|assumption);iterate 6 exact rfl)|((first|apply yG|apply yH|apply yI);exact rfl;(first|exact yJ|exact yK rfl rfl|exact yL rfl|exact yM rfl|exact rfl|exact aL rfl rfl rfl rfl rfl|exact aS rfl rfl rfl rfl rfl rfl rfl|exact yax encI hki hlt|exact yax wc hij hj))|((first|apply yN|apply yO|apply yP);exact rfl)|exact yaF|(((first|apply yT|apply yU|apply yV|apply yW);exact rfl;(first|exact .d|exact .e|exact .n|((fail_if_success exact bqt);(fail_if_success exact bqf);exact .b)))<;>intro _)
  apply Go.draw;refine Go.qkd [] ?_;repeat' first|(apply Qk.nil;show Go _ _ _ _ _ _ _ _)|(apply Qk.op;exact rfl;(first|(rintro _ ⟨_,rfl⟩;exact rfl)|(rintro _ ⟨_,rfl⟩;exact jau rfl rfl rfl (yak rfl) rfl)|(rintro _ ⟨_,rfl⟩;exact jbv (h.grow _) rfl)))|(apply Qk.no;exact rfl)|(apply Qk.pcall;(iterate 3 exact rfl);(first|exact cA))|(apply Qk.wop;exact rfl;exact rfl;(first|exact yJ|exact yL rfl|exact jm rfl rfl rfl rfl rfl rfl (yak rfl));exact⟨_,rfl⟩)
  repeat' first|refine X ?_|exact yaF|refine Y ?_ ?_<;>intro _
  refine Go.keep [0,1,6,16,19,20,21,58,59,60,77,78,79] (Go.loops (I:=λm fr V2=>∃(q:Nat) (kq:Int) (acc:List Val) (v:Nat) (junk:List (List Ce)),m=l[j].terms.length-q/\q<=l[j].terms.length/\kq=q/\Jk 3 junk/\(acc.length=q/\jbw row l[j].terms []=jbw row (l[j].terms.drop q) acc)/\
   fr=[(0,.c (.ptr L.c L.vc 0 0)),(1,.c (.fz (l.map wc))),(6,.c (.int .i64 deep)),(16,.c (.fz (row.map encV))),(19,.c (.fp (wc l[j]))),(20,.c (.int .i64 (to:Int))),(21,.c (vec (V'.next+0) v (acc.map encV) junk)),(58,.c (.fz (ids.map encI))),(59,.c (.int .i64 (ids.length:Int))),(60,.c (.int .i64 ki)),(77,.c (.fz (l[j].terms.map zn))),(78,.c (.int .i64 (l[j].terms.length:Int))),(79,.c (.int .i64 kq))]/\V2=E V' [(v,acc.map encV++junk)]) ?_ _ _ _ ⟨0,_,[],0,[],rfl,yad _,rfl,Jk.nil,⟨rfl,rfl⟩,rfl,rfl⟩)
  rintro m fr V2 ⟨q,kq,acc,v,junk,rfl,hq,hkq,hj3,⟨hal,htm⟩,rfl,rfl⟩ hrec2;by_cases hqt:q<l[j].terms.length
  ·clear hrec;have hlt8:=hG.len;have hex:=hG.terms _ (yaa hqt);rw[show(2*(s[k].cols.length:Int))=(row.length:Int) by omega]at hex;obtain⟨he1,he2⟩:=zbi hex;have cE:=jj5 l[j].terms[q].expr row O O;rw[zfk,wdj,hba,hex,yaz,if_pos rfl]at cE;rw[yab hqt,jbw]at htm;generalize za5 l[j].terms[q].expr row=ev at cE htm;obtain⟨w,b⟩:=ev;simp only at cE htm;have hN2:V.next<=(E V' [(v,acc.map encV++junk)]).next:=yaf hN (by rw[z4];exact ybl _ _);have hz3:∀e∈acc.map encV,e.length=3:=λe he=>(jcq e he).1;have hbd:((acc.map encV).length+1)*32<=140737488355328:=by rw[yae];omega
   have e1:acc.map encV++[encV w]=(acc++[w]).map encV:=gx
   cases b
   ·rw[if_neg yah]at htm;rw[htm]at hst;simp only at hst;rw[if_neg gb]at hst;rw[hst];repeat' first|refine X ?_|((first|apply yG|apply yH|apply yI);exact rfl;(first|exact yax zn hkq hqt))|refine yaC (cE) ?_|exact yaF|refine Y ?_ ?_<;>intro _
    all_goals first
     |contradiction
     |exact .ret rfl ⟨rfl,hK.trans (Kept.grow h _),λh=>by cases h⟩
     |(exfalso;simp_all;done)
   ·rw[if_pos rfl]at htm;repeat' first|refine X ?_|((first|apply yG|apply yH|apply yI);exact rfl;(first|exact yax zn hkq hqt))|(apply Go.app1;exact rfl;exact rfl;exact rfl;exact rfl;exact rfl;exact hz3;exact hj3;exact rfl;exact hbd;intro v' junk' hj')|refine yaC (cE) ?_|exact yaF|refine Y ?_ ?_<;>intro _
    all_goals first
     |contradiction
     |skip
    refine Go.keep [0,1,6,16,19,20,21,58,59,60,77,78,79] (hrec2 _ _ _ O ⟨q+1,_,acc++[w],v',junk',rfl,hqt,wb hkq O,hj',⟨by rw[yba,hal];rfl,htm⟩, ?_, ?_⟩)
    ·rw[<-e1];rfl
    ·rw[<-e1];rfl
  ·clear hrec2;rw[yac O,jbw]at htm;rw[htm]at hst hko;simp only at hst hko;have hlt8:=hG.len
   refine Go.freezeN (l:=[]) (m:=[(v,acc.map encV++junk)]) (fr':=[(0,.c (.ptr L.c L.vc 0 0)),(1,.c (.fz (l.map wc))),(6,.c (.int .i64 deep)),(16,.c (.fz (row.map encV))),(19,.c (.fp (wc l[j]))),(20,.c (.int .i64 (to:Int))),(21,.c (.fz (acc.map encV))),(58,.c (.fz (ids.map encI))),(59,.c (.int .i64 (ids.length:Int))),(60,.c (.int .i64 ki)),(77,.c (.fz (l[j].terms.map zn))),(78,.c (.int .i64 (l[j].terms.length:Int))),(79,.c (.int .i64 kq))]) hSt (λb hb=>by cases hb) hN
    (.frz rfl (.refl h.ptr) (.frz rfl (.refl wc7) (.frz rfl (.refl wu) (.frz rfl (.refl w7) (.frz rfl (.refl zil) (.frz rfl (.refl wu) (.frz rfl zfo (.frz rfl (.refl wdb) (.frz rfl (.refl wu) (.frz rfl (.refl wu) (.frz rfl (.refl (λy hy=>by rw[AV.all,List.mem_singleton]at hy;subst hy;exact zae (wjl _))) (.frz rfl (.refl wu) (.frz rfl (.refl wu) .nil))))))))))))) ?_
   rw[zdm hSt];have c5:=wko s[to] acc O;rw[zkg,zr hto]at hst hko
   cases hf:fitF s[to] acc
   ·rw[hf]at c5;rw[hf,if_neg yah,if_neg gb]at hst;rw[hst];repeat' first|refine X ?_|((first|apply yG|apply yH|apply yI);exact rfl;(first|exact jbv h rfl|exact yax ja rfl hto))|refine yaC (c5) ?_|exact yaF|refine Y ?_ ?_<;>intro _
    all_goals first
     |contradiction
     |exact .ret rfl ⟨rfl,hK,λh=>by cases h⟩
     |(exfalso;simp_all;done)
   ·rw[hf]at c5;rw[hf,if_pos rfl,wma]at hst hko;have c6:=zjj hs hto acc false cur rfl xs V' h (whn hcur hto) (wax hf).1 (zck hf hc8t);rw[if_neg yah]at c6;have hkp:=jkg hs hto hf hcur;have hcd:=wfn (s:=s) (k:=to) (vals:=acc) (rep:=false) (db:=cur);generalize insF (chgF s 12) s to acc false cur=p at c6 hkp hcd hst hko;obtain⟨pd,pi,pc⟩:=p;simp only at hkp hcd hst hko;repeat' first|refine X ?_|((first|apply yG|apply yH|apply yI);exact rfl;(first|exact jbv h rfl|exact yax ja rfl hto))|refine yaC (c5) ?_|exact yaF|refine Y ?_ ?_<;>intro _
    all_goals first
     |contradiction
     |skip
    refine .call _ rfl rfl rfl c6 ?_;rintro r9 V3 ⟨hr9,hk3,hq3⟩;rw[hr9];simp only at hq3⊢;clear hr9 c6;have hK3:=hK.trans hk3;by_cases hpc:pc=0
    ·subst hpc;have hpd:=hkp rfl;obtain⟨xs3,hH3⟩:=hq3 rfl;rw[if_pos rfl]at hst hko;have c7:=ih hto acc hf pd hpd xs3 V3 hH3;have hcd7:=hr.cod to acc pd;generalize run to acc pd=p2 at c7 hst hko hcd7;obtain⟨d2,e2⟩:=p2;simp only at hst hko hcd7;repeat' first|refine X ?_|exact yaF|refine Y ?_ ?_<;>intro _
     all_goals first
      |contradiction
      |skip
     refine .call _ rfl rfl rfl c7 ?_;rintro r9 V4 ⟨hr9,hk4,hq4⟩;rw[hr9];simp only at hq4⊢;clear hr9 c7;have hK4:=hK3.trans hk4;by_cases he2:e2=0
     ·subst he2;obtain⟨xs4,hH4⟩:=hq4 rfl;rw[if_pos rfl]at hst;repeat' first|refine X ?_|exact yaF|refine Y ?_ ?_<;>intro _
      all_goals first
       |contradiction
       |exact Go.keep [0,1,6,16,58,59,60] (hrec _ _ _ O ⟨i+1,_,d2,xs4,rfl,hlt,wb hki O,⟨hko rfl,hH4,hK4,hst⟩,rfl⟩)
       |(exfalso;simp_all;done)
     ·rw[if_neg he2]at hst;rw[hst];repeat' first|refine X ?_|exact yaF|refine Y ?_ ?_<;>intro _
      all_goals first
       |contradiction
       |exact .ret rfl ⟨rfl,hK4,λh=>absurd h he2⟩
       |(exfalso;simp_all;done)
    ·rw[if_neg hpc,if_neg hpc]at hst;rw[hst];repeat' first|refine X ?_|exact yaF|refine Y ?_ ?_<;>intro _
     all_goals first
      |contradiction
      |exact .ret rfl ⟨rfl,hK3,λh=>absurd h hpc⟩
      |(exfalso;simp_all;done)
 ·rw[yac O,jcn]at hst;rw[hst];repeat' first|refine X ?_|exact yaF|refine Y ?_ ?_<;>intro _
  exact .ret rfl ⟨rfl,hK,λ_=>⟨xs,h⟩⟩
theorem wn7(hs:SchG s){l:List we}(hT:wl s l=true)(hb:∀x∈l,x.when_.length<=34359738368){k:Nat}(hk:k<s.length)(ev:Int)(old now:List Val)(ho:RowO s[k] old)(hw:RowO s[k] now)(db:List Data)(xs:List Ce)(V:wa)(h:ww L n s xs db V)(deep:Int)(hn:jah s[k] l ev old now=[]):
 Go Tryz.prog V.next jj.nt jj.rets (Done L n s (db,0) V) [.code jj.body]
  (frOf 0 [.c (.ptr L.c L.vc 0 0),.c (.fz (l.map wc)),.c (.int .i64 (k:Int)),.c (.int .i64 ev),.c (.fz (old.map encV)),.c (.fz (now.map encV)),.c (.int .i64 deep)]) V:=by
 obtain⟨hsch,hl6,_⟩:=jbe hT;have hc8:=(hs.tab _ (yaa hk)).cols8;have ho8:old.length<=8:=by
  rcases ho.len with e|e
  ·rw[e];exact yad _
  ·omega
 have hw8:now.length<=8:=by
  rcases hw.len with e|e
  ·rw[e];exact yad _
  ·omega
 have c0:=NewV.pure (wij s l (k:Int) k ev old now rfl hk hc8 (yaf hl6 gb) hb ho8 hw8);have cB:=jkf s[k].cols.length old now hc8 ho8 hw8;rw[hn]at c0;repeat' first|refine X ?_|((first|apply yG|apply yH|apply yI);exact rfl;(first|exact jbv h rfl|exact yax ja rfl hk))|refine yaC (c0) ?_|refine yaC (cB) ?_|exact yaF|refine Y ?_ ?_<;>intro _
 all_goals first
  |contradiction
  |skip
 refine Go.keep [58,59,60] (Go.loops (I:=λm fr V'=>m=0/\fr=[(58,.c (.fz (([]:List Int).map encI))),(59,.c (.int .i64 0)),(60,.c (.int .i64 0))]/\V'=V) ?_ _ _ _ ⟨rfl,rfl,rfl⟩);rintro m fr V' ⟨rfl,rfl,rfl⟩ hrec;repeat' first|refine X ?_|exact yaF|refine Y ?_ ?_<;>intro _
 exact .ret rfl ⟨rfl,.refl,λ_=>⟨xs,h⟩⟩
theorem wob(hs:SchG s){l:List we}(hT:wl s l=true)(hb:∀x∈l,x.when_.length<=34359738368){k:Nat}(hk:k<s.length)(ev:Int)(old now:List Val)(ho:RowO s[k] old)(hw:RowO s[k] now)(db:List Data)(xs:List Ce)(V:wa)(h:ww L n s xs db V)(hn:jah s[k] l ev old now≠[]):
 Go Tryz.prog V.next jj.nt jj.rets (Done L n s ([],6) V) [.code jj.body]
  (frOf 0 [.c (.ptr L.c L.vc 0 0),.c (.fz (l.map wc)),.c (.int .i64 (k:Int)),.c (.int .i64 ev),.c (.fz (old.map encV)),.c (.fz (now.map encV)),.c (.int .i64 6)]) V:=by
 obtain⟨hsch,hl6,_⟩:=jbe hT;have hc8:=(hs.tab _ (yaa hk)).cols8;have ho8:old.length<=8:=by
  rcases ho.len with e|e
  ·rw[e];exact yad _
  ·omega
 have hw8:now.length<=8:=by
  rcases hw.len with e|e
  ·rw[e];exact yad _
  ·omega
 have c0:=NewV.pure (wij s l (k:Int) k ev old now rfl hk hc8 (yaf hl6 gb) hb ho8 hw8);generalize jah s[k] l ev old now=ids at c0 hn;have hpos:0<ids.length:=List.length_pos_iff.2 hn;repeat' first|refine X ?_|((first|apply yG|apply yH|apply yI);exact rfl;(first|exact jbv h rfl))|refine yaC (c0) ?_|exact yaF|refine Y ?_ ?_<;>intro _
 all_goals first
  |contradiction
  |exact .ret rfl ⟨rfl,.refl,λh=>by cases h⟩
  |(exfalso;simp_all;done)
  |(exfalso;simp_all;omega)
theorem zmc{L:ChL}{n:Nat}{s:List zd}(hs:SchG s){l:List we}(hT:wl s l=true)(hb:∀x∈l,x.when_.length<=34359738368):∀(d:Nat),d<=6->∀{k:Nat} (hk:k<s.length) (ev:Int) (old now:List Val),RowO s[k] old->RowO s[k] now->∀(db:List Data),DbG BI s db->∀(xs:List Ce) (V:wa),ww L n s xs db V->∀(deep:Int),deep=6-(d:Int)->OldS V->
 Go Tryz.prog V.next jj.nt jj.rets (Done L n s (zbm s l d k ev old now db) V) [.code jj.body]
  (frOf 0 [.c (.ptr L.c L.vc 0 0),.c (.fz (l.map wc)),.c (.int .i64 (k:Int)),.c (.int .i64 ev),.c (.fz (old.map encV)),.c (.fz (now.map encV)),.c (.int .i64 deep)]) V
 |0,h6,k,hk,ev,old,now,ho,hw,db,hdb,xs,V,h,deep,hd,hS=>by
  rw[zbm,zr hk];by_cases hn:jah s[k] l ev old now=[]
  ·rw[if_pos hn];exact wn7 hs hT hb hk ev old now ho hw db xs V h deep hn
  ·rw[if_neg hn];have e:deep=6:=O;subst e;exact wob hs hT hb hk ev old now ho hw db xs V h hn
 |d+1,h6,k,hk,ev,old,now,ho,hw,db,hdb,xs,V,h,deep,hd,hS=>by
  rw[zbm,zr hk];by_cases hn:jah s[k] l ev old now=[]
  ·rw[hn,jcn];exact wn7 hs hT hb hk ev old now ho hw db xs V h deep hn
  ·refine zm9 hs hT hb (runG hs hT d) hk ev old now ho hw db hdb xs V h deep O O (λ{j} hj vals hf db hdb xs V h=>?_) hn hS;refine Ok.run0 mixed wa9 gz λhS hA=>?_;clear hA;refine Go.ext ?_ (zdm hS)
   refine Go.freezeN (l:=[]) (m:=[]) (fr':=frOf 0 [.c (.ptr L.c L.vc 0 0),.c (.fz (l.map wc)),.c (.int .i64 (j:Int)),.c (.int .i64 1),.c (.fz (([]:List Val).map encV)),.c (.fz (vals.map encV)),.c (.int .i64 (IntKind.i64.wrap (deep+1)))]) hS (λb hb=>by cases hb) (yai _)
    (.frz rfl (.refl h.ptr) (.frz rfl (.refl wc7) (.frz rfl (.refl wu) (.frz rfl (.refl wu) (.frz rfl (.c .nil) (.frz rfl (.refl w7) (.frz rfl (.refl wu) .nil)))))))
    (Go.ext (zmc hs hT hb d O hj 1 [] vals wdc (jkr hf) db hdb xs V h _ (by rw[jg O O];omega) hS) (zdm hS).symm)
theorem wny(hs:SchG s){l:List we}(hT:wl s l=true)(hb:∀x∈l,x.when_.length<=34359738368){k:Nat}(hk:k<s.length)(ev:Int)(old now:List Val)(ho:RowO s[k] old)(hw:RowO s[k] now)(db:List Data)(hdb:DbG BI s db)(xs:List Ce)(V:wa)(h:ww L n s xs db V):
 Ok Tryz.prog 86 [.c (.ptr L.c L.vc 0 0),.c (.fz (l.map wc)),.c (.int .i64 (k:Int)),.c (.int .i64 ev),.c (.fz (old.map encV)),.c (.fz (now.map encV)),.c (.int .i64 0)] V (Done L n s (zbm s l 6 k ev old now db) V):=
 Ok.run0 mixed wa9 gz λhS _=>zmc hs hT hb 6 (yai _) hk ev old now ho hw db hdb xs V h 0 rfl hS
set_option maxHeartbeats 1000000 in
theorem zlc(t:zd)(x:Stmt)(old:List Val)(hl:old.length=t.cols.length)(h0:old≠[])(hv:jt old 16=true)(hs:x.sets.length<=34359738368)(ha:∀a∈x.sets,jc3 t.cols.length a=true):
 Pure Tryz.prog 282 [.agg (zi x),.agg (ja t),.c (.fz (old.map encV))] (znx (za9 t old x.sets old)):=by
 refine yaq [3,4] zf8 λG=>?_;obtain⟨hv16,hvo⟩:=zf.1 hv;have cm:=zat old h0 (yaf hv16 gb) (E G []);repeat' first|refine X ?_|exact yaF|refine Y ?_ ?_<;>intro _
 refine .call _ rfl rfl rfl cm ?_;rintro q V9 ⟨v,junk,hj,hq,ht⟩;rw[hq,ht,E_E];clear hq ht cm;repeat' first|refine X ?_|exact yaF|refine Y ?_ ?_<;>intro _
 refine Go.keep [2,3,4,8,16,17,18] (Go.loops (I:=λm fr V=>∃(i:Nat) (k:Int) (cur:List Val),m=x.sets.length-i/\i<=x.sets.length/\k=i/\(cur.length=old.length/\za9 t old x.sets old=za9 t old (x.sets.drop i) cur)/\
  fr=[(2,.c (.fz (old.map encV))),(3,.c (.fp (zi x))),(4,.c (.fp (ja t))),(8,.c (vec (G.next+0) v (old.map encV) junk)),(16,.c (.fz (x.sets.map wi))),(17,.c (.int .i64 (x.sets.length:Int))),(18,.c (.int .i64 k))]/\V=E G [(v,cur.map encV++junk)]) ?_ _ _ _ ⟨0,_,old,rfl,yad _,rfl,⟨rfl,rfl⟩,rfl,rfl⟩)
 rintro m fr V ⟨i,k,cur,rfl,hi,hk,⟨hcl,hst⟩,rfl,rfl⟩ hrec;by_cases hlt:i<x.sets.length
 ·have hsa:=ha _ (yaa hlt);rw[jc3,yat]at hsa;obtain⟨hcol,hex⟩:=hsa;obtain⟨q1,q2⟩:=wl0 hcol;rw[<-hl]at hex;obtain⟨he1,he2⟩:=zbi hex;have hcc:x.sets[i].col=(x.sets[i].col.toNat:Int):=O;have hct:x.sets[i].col.toNat<t.cols.length:=O;have hcv:x.sets[i].col.toNat<cur.length:=O;have hcm:x.sets[i].col.toNat<(old.map encV).length:=by rw[yae];omega
  have hkd:zdk t x.sets[i].col=t.cols[x.sets[i].col.toNat].kind:=jbi hcc hct;have c1:=jj5 x.sets[i].expr old O (yaf hv16 gb);rw[zfk,wdj,hv,hex,yaz,if_pos rfl]at c1;have hwo:=wkq hvo hex;rw[yab hlt,za9,hkd]at hst;generalize za5 x.sets[i].expr old=ev at c1 hst hwo;obtain⟨w,b⟩:=ev;simp only at c1 hst hwo;have c2:=wj2 w t.cols[x.sets[i].col.toNat].kind
  cases b
  ·rw[ybi,if_neg yah]at hst;rw[hst];repeat' first|refine X ?_|((first|apply yG|apply yH|apply yI);exact rfl;(first|exact yax wi hk hlt|exact yax ji hcc hct))|refine yaC (c1) ?_|refine yaC (c2) ?_|exact yaF|refine Y ?_ ?_<;>intro _
   all_goals first
    |exact .ret rfl ⟨_,rfl,jii⟩
    |(exfalso;simp_all;done)
  ·rw[wgg,hwo rfl,yaz]at c2;rw[yaz]at hst;have hgo:za9 t old x.sets old=za9 t old (x.sets.drop (i+1)) (cur.set x.sets[i].col.toNat w)->∃(j:Nat) (kj:Int) (cur':List Val),x.sets.length-(i+1)=x.sets.length-j/\j<=x.sets.length/\kj=j/\(cur'.length=old.length/\za9 t old x.sets old=za9 t old (x.sets.drop j) cur')/\[(2,AV.c (.fz (old.map encV))),(3,.c (.fp (zi x))),(4,.c (.fp (ja t))),(8,.c (vec (G.next+0) v (old.map encV) junk)),(16,.c (.fz (x.sets.map wi))),(17,.c (.int .i64 (x.sets.length:Int))),(18,.c (.int .i64 (IntKind.i64.wrap (k+1))))]=[(2,AV.c (.fz (old.map encV))),(3,.c (.fp (zi x))),(4,.c (.fp (ja t))),(8,.c (vec (G.next+0) v (old.map encV) junk)),(16,.c (.fz (x.sets.map wi))),(17,.c (.int .i64 (x.sets.length:Int))),(18,.c (.int .i64 kj))]/\E G [(v,(cur.map encV++junk).set (0+x.sets[i].col.toNat) (zj (encV cur[x.sets[i].col.toNat]) 0 (encV w)))]=E G [(v,cur'.map encV++junk)]:=λh=>⟨i+1,_,_,rfl,hlt,wb hk O,⟨by rw[yarq];exact hcl,h⟩,rfl,congrArg (E G) (congrArg (λz=>[(v,z)]) (zcm hcv _ w))⟩;generalize hbb:(w.k==0||w.k==t.cols[x.sets[i].col.toNat].kind)=bb at c2 hst
   cases bb
   ·rw[if_neg yah]at hst;rw[hst];repeat' first|refine X ?_|((first|apply yG|apply yH|apply yI);exact rfl;(first|exact yax wi hk hlt|exact yax ji hcc hct))|refine yaC (c1) ?_|refine yaC (c2) ?_|exact yaF|refine Y ?_ ?_<;>intro _
    all_goals first
     |exact .ret rfl ⟨_,rfl,jii⟩
     |(exfalso;simp_all;done)
   ·rw[if_pos rfl]at hst;repeat' first|refine X ?_|((first|apply yG|apply yH|apply yI);exact rfl;(first|exact yax wi hk hlt|exact yax ji hcc hct|exact z9 (k:=0) rfl rfl hcc hcm rfl (way hcv) rfl|exact jm (k:=0) rfl rfl rfl rfl (way hcv) rfl gz))|refine yaC (c1) ?_|refine yaC (c2) ?_|exact yaF|refine Y ?_ ?_<;>intro _
    all_goals first
     |exact Go.keep [2,3,4,8,16,17,18] (hrec _ _ _ O (hgo hst))
     |(exfalso;simp_all;done)
 ·clear hrec;rw[yac O,za9]at hst;rw[hst];repeat' first|refine X ?_|exact yaF|refine Y ?_ ?_<;>intro _
  refine .ret rfl ⟨_,rfl, ?_⟩;have hvv:vec (G.next+0) v (old.map encV) junk=vec (G.next+0) v (cur.map encV) junk:=by rw[vec,vec,yae,yae,hcl]
  rw[hvv];refine .tup rfl λj hj=>?_;have hj2:j<2:=hj;have hj3:j=0\/j=1:=O;rcases hj3 with rfl|rfl
  ·exact jbu (k:=0) rfl (λe he x hx=>((jcq e he).2 x hx).old _) (yai _)
  ·exact .c (.same _ (.bool _))
theorem jmc(x:Stmt)(c:Int):Pure Tryz.prog 187 [.agg (zi x),.c (.int .i64 c)] (.c (.bool (jl9 x c))):=by
 refine yaq [2] zd3 λG=>?_;rw[jl9];by_cases hp:x.policy=2
 ·rw[beq_iff_eq.2 hp,yaz];by_cases h2:c=2
  ·subst h2;repeat' first|refine X ?_|exact yaF|refine Y ?_ ?_<;>intro _
   all_goals first
    |contradiction
    |exact .ret rfl (.bool rfl)
  ·by_cases h3:c=3
   ·subst h3;repeat' first|refine X ?_|exact yaF|refine Y ?_ ?_<;>intro _
    all_goals first
     |contradiction
     |exact .ret rfl (.bool rfl)
   ·by_cases h4:c=4
    ·subst h4;repeat' first|refine X ?_|exact yaF|refine Y ?_ ?_<;>intro _
     all_goals first
      |contradiction
      |exact .ret rfl (.bool rfl)
    ·have hf:isIn c 2 4=false:=by
      rw[isIn,Bool.and_eq_false_iff,decide_eq_false_iff_not,decide_eq_false_iff_not];omega
     rw[hf];repeat' first|refine X ?_|exact yaF|refine Y ?_ ?_<;>intro _
     all_goals first
      |contradiction
      |(refine .ret rfl (.bool ?_);simp_all;done)
 ·rw[beq_eq_false_iff_ne.2 hp,ybi];repeat' first|refine X ?_|exact yaF|refine Y ?_ ?_<;>intro _
  all_goals first
   |contradiction
   |(refine .ret rfl (.bool ?_);simp_all;done)
theorem wat{cs:List Ce}(h:∀c∈cs,Old n c):Old n (.fp cs):=.fp _ λj hj=>h _ (yaa hj)
theorem wkr{G V:wa}{ys junk:List (List Ce)}{v:Nat}{b:Bool}(ho:∀e∈ys,∀x∈e,Old G.next x):FrzV (E G [(v,ys++junk)]) G.next (.tup [.c (vec (G.next+0) v ys junk),.c (.bool b)]) (.tup [.c (.fz ys),.c (.bool b)]):=by
 refine .tup rfl λj hj=>?_;have hj2:j<2:=hj;have hj3:j=0\/j=1:=O;rcases hj3 with rfl|rfl
 ·exact jbu (k:=0) rfl ho (yai _)
 ·exact .c (.same _ (.bool _))
def JobG(s:List zd)(c:Ce)(j:List Data->Res):Prop:=∃f cap,c=.fn f [] cap/\(∀now,DbG BI s now->∀(L:ChL) (n:Nat) (xs:List Ce) (V:wa),ww L n s xs now V->Ok Tryz.prog f (([]:List Ce).map .c++[.c (.ptr L.c L.vc 0 0)]++cap.map .c) V (Done L n s (j now) V))/\∀now,DbG BI s now->(j now).2=0->DbG BI s (j now).1
theorem Kept.ofGr{V':wa}(h:Gr V V')(hn:n<=V.next):Kept n V V':=by
 obtain⟨l,rfl,_⟩:=h;exact .ofE hn l
theorem zkh(hs:SchG s){now:List Data}(hn:DbG BI s now){c:Ce}{j:List Data->Res}(hj:JobG s c j)(G:wa):Ok Tryz.prog 136 [.c (.fz (s.map ja)),.c (.fz (now.map jb)),.c c] G (NewV G (.tup [.c (.fz ((topR now (j now)).1.map jb)),.c (.int .i64 (topR now (j now)).2)])):=by
 obtain⟨f,cap,rfl,hrun,hkp⟩:=hj;obtain⟨b1,b2,b3⟩:=zl7 hs hn;refine Ok.newV ((wla s now O (λd hd=>⟨(b3 d hd).2.1,λr hr=>⟨((b3 d hd).2.2 r hr).1,by have:=((b3 d hd).2.2 r hr).2.1;omega⟩⟩) (λd hd=>(b3 d hd).1) f [] cap (j now) (λh0 d hd=>((zl7 hs (hkp now hn h0)).2.2 d hd).1) G λL xs V hH=>hrun now hn L G.next xs V hH).mono ?_);rintro r V ⟨hK,x,rfl,hh⟩;exact⟨hK,.two hh⟩
theorem wew(hs:SchG s){db:List Data}(h:DbG BI s db)(G:wa):Ok Tryz.prog 186 [.c (.fz (db.map jb))] G (λr V=>Kept G.next G V/\∃y,r=.c y/\Has V (λa=>G.next<=a/\a<V.next) (.fz (db.map jb)) y):=by
 obtain⟨b1,b2,b3⟩:=zl7 hs h;refine(zdw db O (λd hd=>⟨(b3 d hd).2.1,λr hr=>⟨((b3 d hd).2.2 r hr).1,by have:=((b3 d hd).2.2 r hr).2.1;omega⟩⟩) G).mono ?_;rintro r V ⟨o,vo,xs,junk,rfl,hK,hD⟩;exact⟨hK,_,rfl,hD.has hK.next λd hd=>(b3 d hd).1⟩
abbrev Beh:=List Val->Int->List Data->Res
def behI(beh:Beh)(q:Ins):Res:=if q.2.2=0 then beh [] q.2.1 q.1 else([],q.2.2)
def behR(beh:Beh)(r:RowD)(q:Res):Res:=if q.2=0 then beh r.vals r.id q.1 else([],q.2)
def insK(beh:Beh)(s:List zd)(k:Nat)(x:Stmt)(vals:List Val)(db:List Data):Res:=behI beh (insF (chgF s 12) s k (if(x.policy==3)=true then jl (tabN s k) 0 vals else vals) (x.policy==3) db)
def rowK(beh:Beh)(s:List zd)(k:Nat)(x:Stmt)(r:RowD)(db:List Data):Res:=behR beh r (rowJ s k x r db)
def idK(beh:Beh)(s:List zd)(k:Nat)(x:Stmt)(id:Int)(db:List Data):Res:=match wav (jv db k) id with
 |none=>([],-1)
 |some r=>rowK beh s k x r db
def wmc(beh:Beh)(s:List zd)(k:Nat)(x:Stmt)(db:List Data):List (List Data->Res):=if x.kind=1 then x.rows.map λr=>insK beh s k x r.vals else(wak (jv db k) x.wher).1.map λid=>idK beh s k x id
def jha(beh:Beh)(s:List zd)(k:Nat)(x:Stmt)(db:List Data):Ins:=if(wak (jv db k) x.wher).2=true then wdh db x (wmc beh s k x db) db 0 else(db,8,0)
def nowF(db:List Data)(k:Nat)(id:Int):List Val:=match wav (jv db k) id with|some r=>r.vals|none=>[]
def behT(s:List zd)(l:List we)(k:Nat)(x:Stmt):Beh:=λold id db=>zbm s l 6 k x.kind old (nowF db k id) db
structure BehK(s:List zd)(k:Nat)(hk:k<s.length)(beh:Beh):Prop where
 keep:∀old id db,RowO s[k] old->DbG BI s db->(beh old id db).2=0->DbG BI s (beh old id db).1
 cod:∀old id db,0<=(beh old id db).2
theorem jil(h:DbG BI s db){k:Nat}(hk:k<s.length){r:RowD}(hr:r∈jv db k):RowO s[k] r.vals:=⟨.inr ((h.at hk).fit r hr).1,(zf.1 ((h.at hk).fit r hr).2).2⟩
theorem jkh(h:DbG BI s db){k:Nat}(hk:k<s.length)(id:Int):RowO s[k] (nowF db k id):=by
 rw[nowF]
 cases hb:wav (jv db k) id with
 |none=>exact wdc
 |some r=>exact jil h hk (z8 hb).1
theorem wkh(hs:SchG s){l:List we}(hT:wl s l=true){k:Nat}(hk:k<s.length)(x:Stmt):BehK s k hk (behT s l k x):=⟨λold id db _ h h0=>(wed hs hT 6).1 hk h h0,λold id db=>(wed hs hT 6).2⟩
section
variable {s:List zd}(hs:SchG s){k:Nat}{hk:k<s.length}{beh:Beh}(hB:BehK s k hk beh){x:Stmt}
include hs hB
theorem zki(hf:fitF s[k] vals=true){db:List Data}(h:DbG BI s db)(h0:(insK beh s k x vals db).2=0):DbG BI s (insK beh s k x vals db).1:=by
 have hi:=wke hs hk (x:=x) hf h;rw[insJ]at hi;simp only at hi;rw[insK]at h0⊢;generalize insF (chgF s 12) s k (if(x.policy==3)=true then jl (tabN s k) 0 vals else vals) (x.policy==3) db=q at hi h0⊢;revert h0;rw[behI];split
 ·rename_i h2;exact hB.keep _ _ _ wdc (hi h2)
 ·rename_i h2;exactλh=>absurd h h2
theorem zmd(hG:StG s[k] x){r:RowD}{db:List Data}(h:DbG BI s db)(hr:r∈jv db k)(h0:(rowK beh s k x r db).2=0):DbG BI s (rowK beh s k x r db).1:=by
 have hi:=zkf hs hk hG h hr;revert h0;rw[rowK,behR];split
 ·rename_i h2;exact hB.keep _ _ _ (jil h hk hr) (hi h2)
 ·rename_i h2;exactλh=>absurd h h2
theorem jng(hG:StG s[k] x){id:Int}{db:List Data}(h:DbG BI s db)(h0:(idK beh s k x id db).2=0):DbG BI s (idK beh s k x id db).1:=by
 revert h0;rw[idK]
 cases hb:wav (jv db k) id with
 |none=>exactλh=>by cases h
 |some r=>exact zmd hs hB hG h (z8 hb).1
end
variable {beh:Beh}
theorem jm9(h:∀old id db,0<=(beh old id db).2){q:Ins}(hq:0<=q.2.2):0<=(behI beh q).2:=by
 rw[behI];split
 ·exact h _ _ _
 ·exact hq
theorem wm9(h:∀old id db,0<=(beh old id db).2){r:RowD}{q:Res}(hq:0<=q.2):0<=(behR beh r q).2:=by
 rw[behR];split
 ·exact h _ _ _
 ·exact hq
theorem jmd(hs:SchG s){l:List we}(hT:wl s l=true)(hb:∀x∈l,x.when_.length<=34359738368){k:Nat}(hk:k<s.length)(x:Stmt)(old:List Val)(ho:RowO s[k] old)(id:Int)(db:List Data)(hdb:DbG BI s db)(xs:List Ce)(V:wa)(h:ww L n s xs db V)(hS:OldS V)(hxo:∀y∈(AV.c (.fp (zi x))).all,Old V.next y):
 Go Tryz.prog V.next wan.nt wan.rets (Done L n s (behT s l k x old id db) V) [.code wan.body]
  (frOf 0 [.c (.ptr L.c L.vc 0 0),.c (.int .i64 (k:Int)),.c (.fz (old.map encV)),.c (.int .i64 id),.c (.fp [.fz (l.map wc)]),.c (.fp (zi x))]) V:=by
 have hk2:k<db.length:=by rw[hdb.len];exact hk
 have hk3:k<xs.length:=by rw[h.len];exact hk2
 have hR:=hdb.rows k hk hk2;have ht:=hs.tab _ (yaa hk);have cf:=jdv h hk2 hk3 id hR.len;have hnw:=jkh hdb hk id;have c7:=wny hs hT hb hk x.kind old (nowF db k id) ho hnw db hdb xs V h;have htp:∀y∈(AV.c (.fp [.fz (l.map wc)])).all,Old V.next y:=λy hy=>by
  rw[AV.all,List.mem_singleton]at hy;subst hy;exact wat λc hc=>by rw[List.mem_singleton.1 hc];exact zae (wgu _)
 rw[behT];generalize zbm s l 6 k x.kind old (nowF db k id) db=q at c7⊢;refine Go.ext ?_ (zdm hS);repeat' first|refine X ?_|exact yaF|refine Y ?_ ?_<;>intro _
 refine Go.freezeN (l:=[]) (m:=[(0,[])]) (fr':=[(0,.c (.ptr L.c L.vc 0 0)),(1,.c (.int .i64 (k:Int))),(2,.c (.fz (old.map encV))),(3,.c (.int .i64 id)),(4,.c (.fp [.fz (l.map wc)])),(5,.c (.fp (zi x))),(11,.c (.fz (([]:List Val).map encV))),(14,.c (.ptr L.c L.vc 0 0)),(15,.c (.int .i64 (k:Int))),(16,.c (.int .i64 id))]) hS (λb hb=>by cases hb) (yai _)
  (.frz rfl (.refl h.ptr) (.frz rfl (.refl wu) (.frz rfl (.refl w7) (.frz rfl (.refl wu) (.frz rfl (.refl htp) (.frz rfl (.refl hxo) (.frz rfl (zfo (v:=0) (vals:=[]) (junk:=[])) (.frz rfl (.refl h.ptr) (.frz rfl (.refl wu) (.frz rfl (.refl wu) .nil)))))))))) ?_
 rw[zdm hS];rw[nowF,jf hk2]at c7;rcases zl db[k].rows id with⟨hx1,hx2⟩|⟨j,hj,hx1,hx2⟩
 ·rw[hx2]at c7;refine .call _ rfl rfl rfl (cf.1 hx2) ?_;rintro r9 V9 ⟨hr9,ht9⟩;rw[hr9,ht9];repeat' first|refine X ?_|exact yaF|refine Y ?_ ?_<;>intro _
  refine .call _ rfl rfl rfl c7 ?_;rintro r9 V9 ⟨hr9,hk9,hq9⟩;rw[hr9];repeat' first|refine X ?_|exact yaF|refine Y ?_ ?_<;>intro _
  exact .ret rfl ⟨rfl,hk9,hq9⟩
 ·rw[hx2]at c7;simp only at c7;obtain⟨hfl,hfv⟩:=hR.fit _ (yaa hj);have hne:db[k].rows[j].vals≠[]:=λe=>by
   rw[e]at hfl;have:=ht.cols0;simp at hfl;omega
  obtain⟨lab2,ps2,id2,v2,junk2,hat,hl2⟩:=h.any hk2 hk3;refine .call _ rfl rfl rfl (cf.2 j hj hx1 _ _ _ _ _ hat) ?_;rintro r9 V9 ⟨hr9,ht9⟩;rw[hr9,ht9];clear hr9 ht9;have cm:=Lend.made (.own (hat.frz hj) .nil) (zat db[k].rows[j].vals hne (yaf (zf.1 hfv).1 gb)) λe he=>(jcq e he).2;repeat' first|refine X ?_|((first|apply yG|apply yH|apply yI);exact rfl;(first|exact wm rfl hat.get (hat.at hj) (yao _)))|exact yaF|refine Y ?_ ?_<;>intro _
  refine .call _ rfl rfl rfl cm ?_;rintro q9 V9 ⟨v,junk,hjk,hq9,ht9⟩;rw[hq9,ht9];clear hq9 ht9 cm
  refine Go.freezeN (l:=[]) (m:=[(v,db[k].rows[j].vals.map encV++junk)]) (fr':=[(0,.c (.ptr L.c L.vc 0 0)),(1,.c (.int .i64 (k:Int))),(2,.c (.fz (old.map encV))),(3,.c (.int .i64 id)),(4,.c (.fp [.fz (l.map wc)])),(5,.c (.fp (zi x))),(24,.c (.fz (db[k].rows[j].vals.map encV)))]) hS (λb hb=>by cases hb) (yai _)
   (.frz rfl (.refl h.ptr) (.frz rfl (.refl wu) (.frz rfl (.refl w7) (.frz rfl (.refl wu) (.frz rfl (.refl htp) (.frz rfl (.refl hxo) (.frz rfl zfo .nil))))))) ?_
  rw[zdm hS];repeat' first|refine X ?_|exact yaF|refine Y ?_ ?_<;>intro _
  refine .call _ rfl rfl rfl c7 ?_;rintro r9 V9 ⟨hr9,hk9,hq9⟩;rw[hr9];repeat' first|refine X ?_|exact yaF|refine Y ?_ ?_<;>intro _
  exact .ret rfl ⟨rfl,hk9,hq9⟩
structure BehG(s:List zd)(k:Nat)(hk:k<s.length)(f:Nat)(cap:List Ce)(beh:Beh):Prop where
 ok:BehK s k hk beh
 run:∀(L:ChL) (n:Nat) (old:List Val),RowO s[k] old->∀o,(o=Ce.fz (old.map encV)\/(o=.nils/\old=[]))->∀(id:Int) (db:List Data),DbG BI s db->∀(xs:List Ce) (V:wa),ww L n s xs db V->Ok Tryz.prog f (([]:List Ce).map .c++[.c (.ptr L.c L.vc 0 0),.c (.int .i64 (k:Int)),.c o,.c (.int .i64 id)]++cap.map .c) V (Done L n s (beh old id db) V)
theorem wmd(hs:SchG s){l:List we}(hT:wl s l=true)(hb:∀x∈l,x.when_.length<=34359738368){k:Nat}(hk:k<s.length)(x:Stmt):BehG s k hk 83 [.fp [.fz (l.map wc)],.fp (zi x)] (behT s l k x):=by
 refine⟨wkh hs hT hk x,λL n old ho o hoc id db hdb xs V h=>?_⟩;refine Ok.run0 mixed zcv gz λhS hA=>?_;have hxo:∀y∈(AV.c (.fp (zi x))).all,Old V.next y:=hA _ gx;have htp:∀y∈(AV.c (.fp [.fz (l.map wc)])).all,Old V.next y:=hA _ gx;clear hA;have hg:=jmd hs hT hb hk x old ho id db hdb xs V h hS hxo;rcases hoc with rfl|⟨rfl,rfl⟩
 ·exact hg
 ·refine Go.ext ?_ (zdm hS)
  exact Go.freezeN (l:=[]) (m:=[]) (fr':=frOf 0 [.c (.ptr L.c L.vc 0 0),.c (.int .i64 (k:Int)),.c (.fz (([]:List Val).map encV)),.c (.int .i64 id),.c (.fp [.fz (l.map wc)]),.c (.fp (zi x))]) hS (λb hb=>by cases hb) (yai _)
   (.frz rfl (.refl h.ptr) (.frz rfl (.refl wu) (.frz rfl (.c .nil) (.frz rfl (.refl wu) (.frz rfl (.refl htp) (.frz rfl (.refl hxo) .nil))))))
   (Go.ext hg (zdm hS).symm)
theorem zme(hs:SchG s){k:Nat}(hk:k<s.length){f:Nat}{cap:List Ce}{beh:Beh}(hB:BehG s k hk f cap beh)(x:Stmt)(r:RowD)(hf:fitF s[k] r.vals=true)(db:List Data)(hdb:DbG BI s db)(xs:List Ce)(V:wa)(h:ww L n s xs db V):
 Ok Tryz.prog 279 [.c (.ptr L.c L.vc 0 0),.c (.fp [.int .i64 (k:Int)]),.c (.fp (jc r)),.c (.fp [.bool (x.policy==3)]),.c (.fp [.fn f [] cap])] V (Done L n s (insK beh s k x r.vals db) V):=by
 refine Ok.run0 mixed zcx gz λhS hA=>?_;clear hS hA;have hva:=zck hf (hs.tab _ (yaa hk)).cols8;have c1:=zjj hs hk r.vals (x.policy==3) db rfl xs V h (whn hdb hk) (wax hf).1 hva;have hi:=wke hs hk (x:=x) hf hdb;rw[insJ,zr hk]at hi;simp only at hi;rw[insK,zr hk];generalize insF (chgF s 12) s k (if(x.policy==3)=true then jl s[k] 0 r.vals else r.vals) (x.policy==3) db=q at c1 hi⊢;obtain⟨qd,qi,qc⟩:=q;repeat' first|refine X ?_|exact yaF|refine Y ?_ ?_<;>intro _
 refine .call _ rfl rfl rfl c1 ?_;rintro r9 V2 ⟨hr9,hk2,hq2⟩;rw[hr9];simp only at hq2 hi⊢;clear hr9 c1;rw[behI];by_cases h0:qc=0
 ·subst h0;rw[if_pos rfl];obtain⟨xs2,hH2⟩:=hq2 rfl;repeat' first|refine X ?_|exact yaF|refine Y ?_ ?_<;>intro _
  refine .call _ rfl rfl rfl (hB.run L n [] wdc .nils (.inr ⟨rfl,rfl⟩) qi qd (hi rfl) xs2 V2 hH2) ?_;rintro r9 V3 ⟨hr9,hk3,hq3⟩;rw[hr9];repeat' first|refine X ?_|exact yaF|refine Y ?_ ?_<;>intro _
  exact .ret rfl ⟨rfl,hk2.trans hk3,hq3⟩
 ·rw[if_neg h0];repeat' first|refine X ?_|exact yaF|refine Y ?_ ?_<;>intro _
  all_goals first
   |contradiction
   |exact .ret rfl ⟨rfl,hk2,λh=>absurd h h0⟩
set_option maxHeartbeats 1000000 in
theorem jme(hs:SchG s){k:Nat}(hk:k<s.length){f:Nat}{cap:List Ce}{beh:Beh}(hB:BehG s k hk f cap beh)(x:Stmt)(hG:StG s[k] x)(id:Int)(db:List Data)(hdb:DbG BI s db)(xs:List Ce)(V:wa)(h:ww L n s xs db V):
 Ok Tryz.prog 280 [.c (.ptr L.c L.vc 0 0),.c (.fp [.int .i64 (k:Int)]),.c (.fp [.int .i64 id]),.c (.fp (zi x)),.c (.fp [.fz (s.map ja)]),.c (.fp [.bool (x.policy==3)]),.c (.fp [.fn f [] cap])] V (Done L n s (idK beh s k x id db) V):=by
 refine Ok.run0 mixed jcx gz λhS hA=>?_;have hk2:k<db.length:=by rw[hdb.len];exact hk
 have hk3:k<xs.length:=by rw[h.len];exact hk2
 have hR:=hdb.rows k hk hk2;have ht:=hs.tab _ (yaa hk);have cf:=jdv h hk2 hk3 id hR.len;have hrun:=wl5 (I:=BI) (L:=L) (n:=n) hs 13 0 gb rfl;rw[idK,jf hk2];repeat' first|refine X ?_|exact yaF|refine Y ?_ ?_<;>intro _
 rcases zl db[k].rows id with⟨hx1,hx2⟩|⟨j,hj,hx1,hx2⟩
 ·rw[hx2];refine .call _ rfl rfl rfl (cf.1 hx2) ?_;rintro r9 V9 ⟨hr9,ht9⟩;rw[hr9,ht9];repeat' first|refine X ?_|exact yaF|refine Y ?_ ?_<;>intro _
  exact .ret rfl ⟨rfl,.refl,λh=>by cases h⟩
 ·rw[hx2];show Go _ _ _ _ (Done L n s (rowK beh s k x db[k].rows[j] db) V) _ _ _;have hrj:=zkf hs hk hG hdb (r:=db[k].rows[j]) (by rw[jf hk2];exact yaa hj);have hfo:=jil hdb hk (r:=db[k].rows[j]) (by rw[jf hk2];exact yaa hj);have hrow:wav (jv db k) id=some db[k].rows[j]:=by rw[jf hk2];exact hx2
  have hid:db[k].rows[j].id=id:=(z8 hrow).2;obtain⟨hfl,hfv⟩:=hR.fit _ (yaa hj);have hne:db[k].rows[j].vals≠[]:=λe=>by
   rw[e]at hfl;have:=ht.cols0;simp at hfl;omega
  obtain⟨lab2,ps2,id2,v2,junk2,hat,hl2⟩:=h.any hk2 hk3;refine .call _ rfl rfl rfl (cf.2 j hj hx1 _ _ _ _ _ hat) ?_;rintro r9 V9 ⟨hr9,ht9⟩;rw[hr9,ht9];clear hr9 ht9;have cm:=Lend.made (.own (hat.frz hj) .nil) (zat db[k].rows[j].vals hne (yaf (zf.1 hfv).1 gb)) λe he=>(jcq e he).2;repeat' first|refine X ?_|((first|apply yG|apply yH|apply yI);exact rfl;(first|exact wm rfl hat.get (hat.at hj) (yao _)))|exact yaF|refine Y ?_ ?_<;>intro _
  refine .call _ rfl rfl rfl cm ?_;rintro q V9 ⟨v,junk,hjk,hq9,ht9⟩;rw[hq9,ht9];clear hq9 ht9 cm;repeat' first|refine X ?_|fail
  refine Go.freezeN (l:=[]) (m:=[(v,db[k].rows[j].vals.map encV++junk)]) (fr':=[(0,.c (.ptr L.c L.vc 0 0)),(1,.c (.fp [.int .i64 (k:Int)])),(2,.c (.fp [.int .i64 id])),(3,.c (.fp (zi x))),(4,.c (.fp [.fz (s.map ja)])),(5,.c (.fp [.bool (x.policy==3)])),(6,.c (.fp [.fn f [] cap])),(10,.c (.fz (db[k].rows[j].vals.map encV))),(11,.c (.int .i64 8)),(27,.c (.bool (x.kind==3)))]) hS (λb hb=>by cases hb) (yai _)
   (.frz rfl (.refl (hA _ gx)) (.frz rfl (.refl (hA _ gx)) (.frz rfl (.refl (hA _ gx)) (.frz rfl (.refl (hA _ gx)) (.frz rfl (.refl (hA _ gx)) (.frz rfl (.refl (hA _ gx)) (.frz rfl (.refl (hA _ gx)) (.frz rfl (zb6 (k:=0) rfl (yai _)) (.frz rfl (.refl ja1) (.frz rfl (.refl wmy) .nil)))))))))) ?_
  rw[zdm hS];rw[rowK];rw[rowJ]at hrj⊢;by_cases h3:x.kind=3
  ·rw[if_pos h3,hid]at hrj⊢;rw[beq_iff_eq.2 h3];have c5:=hrun.del k id db xs V h hdb hk;generalize chgF s 13 (.del k id) db=q at c5 hrj⊢;rw[behR,hid];repeat' first|refine X ?_|exact yaF|refine Y ?_ ?_<;>intro _
   refine .call _ rfl rfl rfl c5 ?_;rintro r9 V9 ⟨hr9,hk9,hq9⟩;rw[hr9];clear hr9 c5;by_cases hq:q.2=0
   ·rw[if_pos hq,hq];obtain⟨xs9,hH9⟩:=hq9 hq;repeat' first|refine X ?_|exact yaF|refine Y ?_ ?_<;>intro _
    refine .call _ rfl rfl rfl (hB.run L n db[k].rows[j].vals hfo _ (.inl rfl) id q.1 (hrj hq) xs9 V9 hH9) ?_;rintro r9 V8 ⟨hr9,hk8,hq8⟩;rw[hr9];repeat' first|refine X ?_|exact yaF|refine Y ?_ ?_<;>intro _
    exact .ret rfl ⟨rfl,hk9.trans hk8,hq8⟩
   ·rw[if_neg hq];generalize hqe:q.2=e at hq⊢;repeat' first|refine X ?_|exact yaF|refine Y ?_ ?_<;>intro _
    all_goals first
     |contradiction
     |exact .ret rfl ⟨rfl,hk9,λh=>absurd h hq⟩
  ·rw[if_neg h3,zr hk]at hrj⊢;rw[beq_eq_false_iff_ne.2 h3];have c3:=zlc s[k] x db[k].rows[j].vals hfl hne hfv hG.sets.1 hG.sets.2
   cases hvf:za9 s[k] db[k].rows[j].vals x.sets db[k].rows[j].vals with
   |none=>
    rw[hvf]at c3;have c3:Pure _ _ _ (.tup [.c .nils,.c (.bool false)]):=c3;show Go _ _ _ _ (Done L n s ([],8) V) _ _ _;repeat' first|refine X ?_|((first|apply yG|apply yH|apply yI);exact rfl;(first|exact yax ja rfl hk))|refine yaC (c3) ?_|exact yaF|refine Y ?_ ?_<;>intro _
    exact .ret rfl ⟨rfl,.refl,λh=>by cases h⟩
   |some nv=>
    rw[hvf]at c3;have c3:Pure _ _ _ (.tup [.c (.fz (nv.map encV)),.c (.bool true)]):=c3;have hl2':nv.length=s[k].cols.length:=(jec hvf).trans hfl;have hok2:jt nv 16=true:=zf.2 ⟨by rw[hl2',<-hfl];exact(zf.1 hfv).1,wec (zf.1 hfv).2 (n:=s[k].cols.length) (by rw[hfl]) hG.sets.2 (zf.1 hfv).2 hvf⟩;have c5:=hrun.upd k id nv (x.policy==3) db xs V h hdb ⟨hk,hl2',hok2⟩;rw[hvf,hid]at hrj;rw[hid];show Go _ _ _ _ (Done L n s (behR beh db[k].rows[j] (chgF s 13 (.upd k id nv (x.policy==3)) db)) V) _ _ _;have hrj:(chgF s 13 (.upd k id nv (x.policy==3)) db).2=0->DbG BI s (chgF s 13 (.upd k id nv (x.policy==3)) db).1:=hrj;generalize chgF s 13 (.upd k id nv (x.policy==3)) db=q at c5 hrj⊢;rw[behR,hid];repeat' first|refine X ?_|((first|apply yG|apply yH|apply yI);exact rfl;(first|exact yax ja rfl hk))|refine yaC (c3) ?_|exact yaF|refine Y ?_ ?_<;>intro _
    refine .call _ rfl rfl rfl c5 ?_;rintro r9 V9 ⟨hr9,hk9,hq9⟩;rw[hr9];clear hr9 c5;by_cases hq:q.2=0
    ·rw[if_pos hq,hq];obtain⟨xs9,hH9⟩:=hq9 hq;repeat' first|refine X ?_|exact yaF|refine Y ?_ ?_<;>intro _
     refine .call _ rfl rfl rfl (hB.run L n db[k].rows[j].vals hfo _ (.inl rfl) id q.1 (hrj hq) xs9 V9 hH9) ?_;rintro r9 V8 ⟨hr9,hk8,hq8⟩;rw[hr9];repeat' first|refine X ?_|exact yaF|refine Y ?_ ?_<;>intro _
     exact .ret rfl ⟨rfl,hk9.trans hk8,hq8⟩
    ·rw[if_neg hq];generalize hqe:q.2=e at hq⊢;repeat' first|refine X ?_|exact yaF|refine Y ?_ ?_<;>intro _
     all_goals first
      |contradiction
      |exact .ret rfl ⟨rfl,hk9,λh=>absurd h hq⟩
def zex(B:Ce)(k:Nat)(x:Stmt)(r:RowD):Ce:=.fn 279 [] [.fp [.int .i64 (k:Int)],.fp (jc r),.fp [.bool (x.policy==3)],.fp [B]]
def jex(B:Ce)(s:List zd)(k:Nat)(x:Stmt)(id:Int):Ce:=.fn 280 [] [.fp [.int .i64 (k:Int)],.fp [.int .i64 id],.fp (zi x),.fp [.fz (s.map ja)],.fp [.bool (x.policy==3)],.fp [B]]
variable {k:Nat}{x:Stmt}
theorem wme{B:Ce}{r:RowD}(hB:Old n B):Old n (zex B k x r):=by
 refine .fn _ _ _ (λi hi=>absurd hi (Nat.not_lt_zero i)) λi hi=>?_;have h:∀c∈[Ce.fp [.int .i64 (k:Int)],.fp (jc r),.fp [.bool (x.policy==3)],.fp [B]],Old n c:=λc hc=>by
  simp only[List.mem_cons,List.not_mem_nil,or_false]at hc;rcases hc with rfl|rfl|rfl|rfl
  ·exact wat λc hc=>by rw[List.mem_singleton.1 hc];exact .int _ _
  ·refine wat λc hc=>?_;simp only[jc,List.mem_cons,List.not_mem_nil,or_false]at hc;rcases hc with rfl|rfl
   ·exact .int _ _
   ·exact w7 _ (List.mem_singleton.2 rfl)
  ·exact wat λc hc=>by rw[List.mem_singleton.1 hc];exact .bool _
  ·exact wat λc hc=>by rw[List.mem_singleton.1 hc];exact hB
 exact h _ (yaa hi)
theorem zmf{B:Ce}{id:Int}(hB:Old n B)(hx:∀c∈zi x,Old n c):Old n (jex B s k x id):=by
 refine .fn _ _ _ (λi hi=>absurd hi (Nat.not_lt_zero i)) λi hi=>?_;have h:∀c∈[Ce.fp [.int .i64 (k:Int)],.fp [.int .i64 id],.fp (zi x),.fp [.fz (s.map ja)],.fp [.bool (x.policy==3)],.fp [B]],Old n c:=λc hc=>by
  simp only[List.mem_cons,List.not_mem_nil,or_false]at hc;rcases hc with rfl|rfl|rfl|rfl|rfl|rfl
  ·exact wat λc hc=>by rw[List.mem_singleton.1 hc];exact .int _ _
  ·exact wat λc hc=>by rw[List.mem_singleton.1 hc];exact .int _ _
  ·exact wat hx
  ·exact wat λc hc=>by rw[List.mem_singleton.1 hc];exact wa7 _ (List.mem_singleton.2 rfl)
  ·exact wat λc hc=>by rw[List.mem_singleton.1 hc];exact .bool _
  ·exact wat λc hc=>by rw[List.mem_singleton.1 hc];exact hB
 exact h _ (yaa hi)
variable {f:Nat}{cap:List Ce}
theorem jmf(x:Stmt)(hx:x.kind=1)(hidx:idxA (λu:zd=>u.name==x.table) s 0=(k:Int))(hr8:x.rows.length<=8)(hs5:s.length<=5)(db:List Data):
 Pure Tryz.prog 185 [.agg (zi x),.c (.fz (s.map ja)),.c (.fz (db.map jb)),.c (.fn f [] cap)] (.tup [.c (.fz (x.rows.map λr=>[zex (.fn f [] cap) k x r])),.c (.bool true)]):=by
 refine yar wbs λG hS hA=>?_;have hBo:Old G.next (.fn f [] cap):=hA (.c (.fn f [] cap)) gx _ (by simp[AV.all]);clear hA hS;have c1:=zav s x.table (yaf hs5 gb);rw[hidx]at c1;have hx1:(x.kind==1)=true:=beq_iff_eq.2 hx;repeat' first|refine X ?_|refine yaC (c1) ?_|exact yaF|refine Y ?_ ?_<;>intro _
 all_goals first
  |contradiction
  |skip
 refine Go.keep [7,10,11,12,31,32,33] (Go.loops (I:=λm fr V=>∃(i:Nat) (ki:Int) (v:Nat) (junk:List (List Ce)),m=x.rows.length-i/\i<=x.rows.length/\ki=i/\Jk 1 junk/\
  fr=[(7,.c (.fp [.fn f [] cap])),(10,.c (.fp [.int .i64 (k:Int)])),(11,.c (.fp [.bool (x.policy==3)])),(12,.c (vec (G.next+0) v ((x.rows.take i).map λr=>[zex (.fn f [] cap) k x r]) junk)),(31,.c (.fz (x.rows.map jc))),(32,.c (.int .i64 (x.rows.length:Int))),(33,.c (.int .i64 ki))]/\V=E G [(v,((x.rows.take i).map λr=>[zex (.fn f [] cap) k x r])++junk)]) ?_ _ _ _ ⟨0,_,0,[],rfl,yad _,rfl,Jk.nil,rfl,rfl⟩)
 rintro m fr V ⟨i,ki,v,junk,rfl,hi,hki,hj,rfl,rfl⟩ hrec;by_cases hlt:i<x.rows.length
 ·have hys:∀e∈(x.rows.take i).map λr=>[zex (.fn f [] cap) k x r],e.length=1:=λe he=>by
   obtain⟨a,_,rfl⟩:=List.mem_map.1 he
   rfl
  have hbd:(((x.rows.take i).map λr=>[zex (.fn f [] cap) k x r]).length+1)*8<=140737488355328:=by rw[yae,yasq];omega
  have e1:((x.rows.take i).map λr=>[zex (.fn f [] cap) k x r])++[[zex (.fn f [] cap) k x x.rows[i]]]=(x.rows.take (i+1)).map λr=>[zex (.fn f [] cap) k x r]:=by rw[yaj hlt,yaqq];rfl
  repeat' first|refine X ?_|((first|apply yG|apply yH|apply yI);exact rfl;(first|exact yax jc hki hlt))|(apply Go.app1;exact rfl;exact rfl;exact rfl;exact rfl;exact rfl;exact hys;exact hj;exact rfl;exact hbd;intro v' junk' hj')|exact yaF|refine Y ?_ ?_<;>intro _
  refine Go.keep [7,10,11,12,31,32,33] (hrec _ _ _ O ⟨i+1,_,v',junk',rfl,hlt,wb hki O,hj', ?_, ?_⟩)
  ·rw[<-e1];rfl
  ·rw[<-e1];rfl
 ·rw[yan O];repeat' first|refine X ?_|exact yaF|refine Y ?_ ?_<;>intro _
  exact .ret rfl ⟨_,rfl,wkr (V:=G) λe he c hc=>by
   obtain⟨a,_,rfl⟩:=List.mem_map.1 he;rw[List.mem_singleton.1 hc];exact wme hBo⟩
theorem wmf(x:Stmt)(hx:¬x.kind=1)(hidx:idxA (λu:zd=>u.name==x.table) s 0=(k:Int))(hs5:s.length<=5)(hw:x.wher.length<=24)(db:List Data)(hk:k<db.length)(hl:db[k].rows.length<=60)(hv:∀r∈db[k].rows,r.vals.length<=34359738368):
 Pure Tryz.prog 185 [.agg (zi x),.c (.fz (s.map ja)),.c (.fz (db.map jb)),.c (.fn f [] cap)] (.tup [.c (.fz ((wak db[k].rows x.wher).1.map λid=>[jex (.fn f [] cap) s k x id])),.c (.bool (wak db[k].rows x.wher).2)]):=by
 refine yar wbs λG hS hA=>?_;have hxo:∀c∈zi x,Old G.next c:=λc hc=>hA (.agg (zi x)) gx c hc;have hBo:Old G.next (.fn f [] cap):=hA (.c (.fn f [] cap)) gx _ (by simp[AV.all]);clear hA hS;have c1:=zav s x.table (yaf hs5 gb);rw[hidx]at c1;have c2:=NewV.pure (jj9 db[k].rows x.wher (yaf hl gb) hv (yaf hw gb));have hml:=wev (l:=db[k].rows) (w:=x.wher);generalize wak db[k].rows x.wher=mf at c2 hml⊢;obtain⟨ids,b⟩:=mf;simp only at c2 hml⊢;have hx1:(x.kind==1)=false:=beq_eq_false_iff_ne.2 hx;repeat' first|refine X ?_|((first|apply yG|apply yH|apply yI);exact rfl;(first|exact yax jb rfl hk))|refine yaC (c1) ?_|refine yaC (c2) ?_|exact yaF|refine Y ?_ ?_<;>intro _
 all_goals first
  |contradiction
  |skip
 refine Go.keep [4,5,7,10,11,12,16,54,55,56] (Go.loops (I:=λm fr V=>∃(i:Nat) (ki:Int) (v:Nat) (junk:List (List Ce)),m=ids.length-i/\i<=ids.length/\ki=i/\Jk 1 junk/\
  fr=[(4,.c (.fp (zi x))),(5,.c (.fp [.fz (s.map ja)])),(7,.c (.fp [.fn f [] cap])),(10,.c (.fp [.int .i64 (k:Int)])),(11,.c (.fp [.bool (x.policy==3)])),(12,.c (vec (G.next+0) v ((ids.take i).map λid=>[jex (.fn f [] cap) s k x id]) junk)),(16,.c (.bool b)),(54,.c (.fz (ids.map encI))),(55,.c (.int .i64 (ids.length:Int))),(56,.c (.int .i64 ki))]/\V=E G [(v,((ids.take i).map λid=>[jex (.fn f [] cap) s k x id])++junk)]) ?_ _ _ _ ⟨0,_,0,[],rfl,yad _,rfl,Jk.nil,rfl,rfl⟩)
 rintro m fr V ⟨i,ki,v,junk,rfl,hi,hki,hj,rfl,rfl⟩ hrec;by_cases hlt:i<ids.length
 ·have hys:∀e∈(ids.take i).map λid=>[jex (.fn f [] cap) s k x id],e.length=1:=λe he=>by
   obtain⟨a,_,rfl⟩:=List.mem_map.1 he
   rfl
  have hbd:(((ids.take i).map λid=>[jex (.fn f [] cap) s k x id]).length+1)*8<=140737488355328:=by rw[yae,yasq];omega
  have e1:((ids.take i).map λid=>[jex (.fn f [] cap) s k x id])++[[jex (.fn f [] cap) s k x ids[i]]]=(ids.take (i+1)).map λid=>[jex (.fn f [] cap) s k x id]:=by rw[yaj hlt,yaqq];rfl
  repeat' first|refine X ?_|((first|apply yG|apply yH|apply yI);exact rfl;(first|exact yax encI hki hlt))|(apply Go.app1;exact rfl;exact rfl;exact rfl;exact rfl;exact rfl;exact hys;exact hj;exact rfl;exact hbd;intro v' junk' hj')|exact yaF|refine Y ?_ ?_<;>intro _
  refine Go.keep [4,5,7,10,11,12,16,54,55,56] (hrec _ _ _ O ⟨i+1,_,v',junk',rfl,hlt,wb hki O,hj', ?_, ?_⟩)
  ·rw[<-e1];rfl
  ·rw[<-e1];rfl
 ·rw[yan O];repeat' first|refine X ?_|exact yaF|refine Y ?_ ?_<;>intro _
  exact .ret rfl ⟨_,rfl,wkr (V:=G) λe he c hc=>by
   obtain⟨a,_,rfl⟩:=List.mem_map.1 he;rw[List.mem_singleton.1 hc];exact zmf hBo hxo⟩
set_option maxHeartbeats 4000000 in
theorem zks(hs:SchG s)(x:Stmt)(db:List Data)(hdb:DbG BI s db)(J:List (Ce×(List Data->Res)))(hJ:∀p∈J,JobG s p.1 p.2)(hJl:J.length<=60)(b:Bool)
 (hj:Pure Tryz.prog 185 [.agg (zi x),.c (.fz (s.map ja)),.c (.fz (db.map jb)),.c (.fn f [] cap)] (.tup [.c (.fz (J.map λp=>[p.1])),.c (.bool b)])) (G:wa):
 Ok Tryz.prog 82 [.c (.fz (s.map ja)),.c (.fz (db.map jb)),.agg (zi x),.c (.fn f [] cap)] G (NewV G (insV (if b=true then wdh db x (J.map (·.2)) db 0 else(db,8,0)))):=by
 refine Ok.newV (Ok.run0 mixed zgz gz λhS hA=>?_);clear hS hA
 cases b
 ·rw[if_neg yah];repeat' first|refine X ?_|refine yaC (hj) ?_|exact yaF|refine Y ?_ ?_<;>intro _
  refine .call _ rfl rfl rfl (wew hs hdb G) ?_;rintro r9 V1 ⟨hK,y,hr9,hh⟩;rw[hr9];repeat' first|refine X ?_|exact yaF|refine Y ?_ ?_<;>intro _
  exact .ret rfl ⟨hK,.three hh⟩
 ·rw[if_pos rfl];repeat' first|refine X ?_|refine yaC (hj) ?_|exact yaF|refine Y ?_ ?_<;>intro _
  refine .call _ rfl rfl rfl (wew hs hdb G) ?_;rintro r9 V1 ⟨hK1,y1,hr9,hh1⟩;rw[hr9];clear hr9 hj;repeat' first|refine X ?_|exact yaF|refine Y ?_ ?_<;>intro _
  refine Go.keep [0,1,6,13,14,33,34,35] (Go.loops (I:=λm fr V=>∃(i:Nat) (ki:Int) (now:List Data) (mc:Nat) (km:Int) (y:Ce),m=J.length-i/\i<=J.length/\ki=i/\(DbG BI s now/\mc<=i/\km=mc/\Kept G.next G V/\Has V (λa=>G.next<=a/\a<V.next) (.fz (now.map jb)) y/\wdh db x (J.map (·.2)) db 0=wdh db x ((J.drop i).map (·.2)) now km)/\
   fr=[(0,.c (.fz (s.map ja))),(1,.c (.fz (db.map jb))),(6,.c (.fp (zi x))),(13,.c y),(14,.c (.int .i64 km)),(33,.c (.fz (J.map λp=>[p.1]))),(34,.c (.int .i64 (J.length:Int))),(35,.c (.int .i64 ki))]) ?_ _ _ _ ⟨0,_,db,0,_,y1,rfl,yad _,rfl,⟨hdb,yai _,rfl,hK1,hh1,rfl⟩,rfl⟩)
  clear hh1 hK1;rintro m fr V ⟨i,ki,now,mc,km,y,rfl,hi,hki,⟨hnow,hmc,hkm,hK,hh,hst⟩,rfl⟩ hrec;by_cases hlt:i<J.length
  ·have hw1:IntKind.i64.wrap (km+1)=km+1:=jg O O;have hJi:=hJ _ (yaa hlt);have hkp:(J[i].2 now).2=0->DbG BI s (J[i].2 now).1:=let⟨_,_,_,_,h⟩:=hJi;h now hnow
   have cc:=Lend.new (.same (.own (HasV.c hh).lend (.same .nil))) (zkh hs hnow hJi);rw[yab hlt,List.map_cons,wdh]at hst;generalize J[i].2 now=q at cc hkp hst;have hn0:G.next<=V.next:=hK.next;repeat' first|refine X ?_|((first|apply yG|apply yH|apply yI);exact rfl;(first|exact yX (enc:=λp:Ce×(List Data->Res)=>[p.1]) rfl rfl hki hlt rfl))|exact yaF|refine Y ?_ ?_<;>intro _
   refine .call _ rfl rfl rfl cc ?_;rintro r9 V2 hq9;obtain⟨g,hr9,gr,hg⟩:=zl0 (.int _ _) hq9;rw[hr9];clear hr9 hq9 cc;have hK2:=hK.trans (.ofGr gr hK.next);have hh2:=(hh.frame λa ha=>gr.lt ha.2).mono (S':=λa=>G.next<=a/\a<V2.next) λa ha=>⟨ha.1,yaw ha.2 gr.next⟩;have hg2:=hg.mono (S':=λa=>G.next<=a/\a<V2.next) λa ha=>⟨yaf hK.next ha.1,ha.2⟩;have hn2:G.next<=V2.next:=hK2.next;clear hg hh gr hK;by_cases hq:q.2=0
   ·rw[if_pos hq,<-hw1]at hst;rw[topR,if_pos hq]at hg2;rw[topR,if_pos hq];repeat' first|refine X ?_|exact yaF|refine Y ?_ ?_<;>intro _
    all_goals first
     |contradiction
     |exact Go.keep [0,1,6,13,14,33,34,35] (hrec _ _ _ O ⟨i+1,_,q.1,mc+1,_,g,rfl,hlt,wb hki O,⟨hkp hq,O,wb hkm O,hK2,hg2,hst⟩,rfl⟩)
   ·obtain⟨e,he⟩:∃e,q.2=e:=⟨_,rfl⟩;rw[if_neg hq,he]at hst;rw[topR,if_neg hq,he];rw[he]at hq;clear hg2;have c4:=jmc x e;by_cases hm:e=-1
    ·rw[if_pos (.inl hm)]at hst;subst hm;repeat' first|refine X ?_|refine yaC (c4) ?_|exact yaF|refine Y ?_ ?_<;>intro _
     all_goals first
      |contradiction
      |exact Go.keep [0,1,6,13,14,33,34,35] (hrec _ _ _ O ⟨i+1,_,now,mc,_,y,rfl,hlt,wb hki O,⟨hnow,O,hkm,hK2,hh2,hst⟩,rfl⟩)
    ·cases hp:jl9 x e
     ·rw[hp]at c4 hst;rw[if_neg (λh=>by rcases h with h|h;exact hm h;cases h)]at hst;by_cases hp1:x.policy=1/\¬e=5
      ·rw[if_pos hp1]at hst;obtain⟨hp1,h5⟩:=hp1;rw[hst];repeat' first|refine X ?_|refine yaC (c4) ?_|exact yaF|refine Y ?_ ?_<;>intro _
       all_goals first
        |contradiction
        |exact .ret rfl ⟨hK2,.three hh2⟩
      ·rw[if_neg hp1]at hst;rw[hst];repeat' first|refine X ?_|refine yaC (c4) ?_|exact yaF|refine Y ?_ ?_<;>intro _
       all_goals first
        |(exfalso;simp_all;done)
        |skip
       all_goals refine .call _ rfl rfl rfl (wew hs hdb V2) ?_
       all_goals rintro r9 V3 ⟨hK3,y3,hr9,hh3⟩
       all_goals rw[hr9]
       all_goals repeat' first|refine X ?_|exact yaF|refine Y ?_ ?_<;>intro _
       all_goals exact .ret rfl ⟨hK2.trans (hK3.mono hn2),.three (hh3.mono λa ha=>⟨yaf hn2 ha.1,ha.2⟩)⟩
     ·rw[hp]at c4 hst;rw[if_pos (.inr rfl)]at hst;repeat' first|refine X ?_|refine yaC (c4) ?_|exact yaF|refine Y ?_ ?_<;>intro _
      all_goals first
       |contradiction
       |exact Go.keep [0,1,6,13,14,33,34,35] (hrec _ _ _ O ⟨i+1,_,now,mc,_,y,rfl,hlt,wb hki O,⟨hnow,O,hkm,hK2,hh2,hst⟩,rfl⟩)
  ·rw[yac O,List.map_nil,wdh]at hst;rw[hst];repeat' first|refine X ?_|exact yaF|refine Y ?_ ?_<;>intro _
   exact .ret rfl ⟨hK,.three hh⟩
theorem zna(hs:SchG s){k:Nat}(hk:k<s.length)(hB:BehG s k hk f cap beh)(x:Stmt)(hG:StG s[k] x)(hidx:idxA (λu:zd=>u.name==x.table) s 0=(k:Int))(db:List Data)(hdb:DbG BI s db)(G:wa):
 Ok Tryz.prog 82 [.c (.fz (s.map ja)),.c (.fz (db.map jb)),.agg (zi x),.c (.fn f [] cap)] G (NewV G (insV (jha beh s k x db))):=by
 have hk2:k<db.length:=by rw[hdb.len];exact hk
 have hR:=hdb.rows k hk hk2;by_cases hx:x.kind=1
 ·have hj:=jmf (f:=f) (cap:=cap) x hx hidx hG.rows.1 hs.few db;have h1:=zks hs x db hdb (x.rows.map λr=>(zex (.fn f [] cap) k x r,insK beh s k x r.vals)) (λp hp=>by
   obtain⟨r,hr,rfl⟩:=List.mem_map.1 hp;refine⟨_,_,rfl,λnow hn L n xs V hH=>?_,λnow hn h0=>zki hs hB.ok (hG.rows.2 r hr) hn h0⟩;exact zme hs hk hB x r (hG.rows.2 r hr) now hn xs V hH) (by rw[yae];have:=hG.rows.1;omega) true (by
   have e:((x.rows.map λr=>(zex (.fn f [] cap) k x r,insK beh s k x r.vals)).map λp=>[p.1])=x.rows.map λr=>[zex (.fn f [] cap) k x r]:=by rw[List.map_map];rfl
   rw[e];exact hj) G
  have e2:(x.rows.map λr=>(zex (.fn f [] cap) k x r,insK beh s k x r.vals)).map (·.2)=x.rows.map λr=>insK beh s k x r.vals:=by rw[List.map_map];rfl
  rw[e2,if_pos rfl]at h1;have e3:jha beh s k x db=wdh db x (x.rows.map λr=>insK beh s k x r.vals) db 0:=by
   have hw:(wak (jv db k) x.wher).2=true:=by
    rw[hG.ins hx];have key:∀(l:List RowD) (acc:List Int),∃ids,wal [] l acc=some ids:=by
     intro l
     induction l with
     |nil=>exactλacc=>⟨acc,rfl⟩
     |cons r l ih=>
      intro acc;rw[wal];exact ih _
    obtain⟨ids,h⟩:=key (jv db k) [];rw[wak,h]
   rw[jha,if_pos hw,wmc,if_pos hx]
  rw[e3];exact h1
 ·have hj:=wmf (f:=f) (cap:=cap) x hx hidx hs.few hG.wher.1 db hk2 hR.len λr hr=>yaf (zf.1 (hR.fit r hr).2).1 gb;have hml:=wev (l:=db[k].rows) (w:=x.wher);have hl:=hR.len;have h1:=zks hs x db hdb ((wak db[k].rows x.wher).1.map λid=>(jex (.fn f [] cap) s k x id,idK beh s k x id)) (λp hp=>by
   obtain⟨id,hid,rfl⟩:=List.mem_map.1 hp;refine⟨_,_,rfl,λnow hn L n xs V hH=>?_,λnow hn h0=>jng hs hB.ok hG hn h0⟩;exact jme hs hk hB x hG id now hn xs V hH) (by rw[yae];omega) (wak db[k].rows x.wher).2 (by
   have e:(((wak db[k].rows x.wher).1.map λid=>(jex (.fn f [] cap) s k x id,idK beh s k x id)).map λp=>[p.1])=(wak db[k].rows x.wher).1.map λid=>[jex (.fn f [] cap) s k x id]:=by rw[List.map_map];rfl
   rw[e];exact hj) G
  have e2:((wak db[k].rows x.wher).1.map λid=>(jex (.fn f [] cap) s k x id,idK beh s k x id)).map (·.2)=(wak db[k].rows x.wher).1.map λid=>idK beh s k x id:=by rw[List.map_map];rfl
  rw[e2]at h1;have e3:jha beh s k x db=if(wak db[k].rows x.wher).2=true then wdh db x ((wak db[k].rows x.wher).1.map λid=>idK beh s k x id) db 0 else(db,8,0):=by
   rw[jha,wmc,if_neg hx,jf hk2]
  rw[e3];exact h1
def wex:AFn:=⟨134,[.t 8,.t 9,.t 10],(oH [oBx 7 3,oP 8 (.mv (.k (.nils))),oMi 9 0,oMi 10 0] (oS (oH [oM 22 0,oM 23 1,oC 24 64 [.t 22,.t 23],oUn 25 24,oM 26 25,ofm 27 0 26,ofm 28 2 26,ofc 29 65 [.t 27,.t 28] 26,oF 30 (.un .not (.t 29)) 26,oPo 31 26 30,oM 32 31,ofm 33 0 32,oF 34 (.load true 6 (.t 7)) 32,ofc 35 66 [.t 33,.t 34] 32,oF 36 (.un .not (.t 35)) 32,oPo 37 32 36] (oQ 37 (oH [oP 8 (.mv (.k (.nils))),oMi 9 1,oMi 10 0] .ret) .skip)) (oH [oM 38 0,oFa 39 1 7,oLf 40 39,oC 41 67 [.t 38,.t 40],oM 11 41] (oS (oD [[oM 43 2,oM 44 11,oIa 45 1 43 44,oLt 46 1 45,oFa 47 3 7,oLf 48 47],[oC 49 68 [.t 46,.t 48]],[oM 42 49],[oEx 50 42 0,oEx 51 42 1,oM 12 50],[oM 13 51]]) (oS (oH [oM 52 13,oUn 53 52] (oQ 53 (oH [oM 54 2,oC 55 69 [.t 54],oM 8 55,oMi 9 8,oMi 10 0] .ret) .skip)) (oH [oM 56 12,oLn 57 56,oM 14 57] (oS (oH [oFa 58 0 7,oLf 59 58,oBk 60 .eql 59 1] (oQ 60 (oG [oFa 61 2 7,oLf 62 61,oLn 63 62,oM 14 63]) .skip)) (oH [oM 64 2,oM 15 64] (oH [oMi 16 0] (oS (oH [oMi 17 0] (.block 0 (.loop (oS (oH [oM 65 17,oM 66 14,oBt 67 .lss 65 66] (oQ 67 .skip (.exit 0))) (oS (.block 1 (oH [oMi 18 0] (oH [oP 70 (.mksl true 3 0 [.int .i64 0,.int .i64 0,.str []] []),oM 19 70] (oS (oH [oFa 71 0 7,oLf 72 71,oBk 73 .eql 72 1] (oQ 73 (oG [oFa 74 2 7,oLf 75 74,oM 76 17,oIa 77 2 75 76,oFa 78 1 77,oLf 79 78,oM 19 79]) (oH [oM 80 12,oM 81 17,oIa 82 1 80 81,oLf 83 82,oM 18 83] (oH [oM 84 15,oM 85 11,oIa 86 1 84 85,oLt 87 1 86,oM 88 18,oC 89 70 [.t 87,.t 88],oBk 90 .lss 89 0] (oQ 90 (.exit 1) .skip))))) (oH [oM 92 0,oM 93 1,oM 94 15,oM 95 11,oLt 96 6 7,oM 97 18,oM 98 19,oC 99 71 [.t 92,.t 93,.t 94,.t 95,.t 96,.t 97,.t 98],oM 91 99,oEx 100 91 0,oEx 101 91 1,oM 20 100,oM 21 101] (.block 2 (oH [oM 106 21,oBk 107 .eql 106 0,oM 105 107] (oQ 105 (oH [oM 108 20,oM 15 108] (oG [oM 109 16,oBk 110 .add 109 1,oM 16 110])) (oH [oFa 112 5 7,oLf 113 112,oBk 114 .eql 113 2,oM 115 114,otm 116 21 115,otc 117 72 [.t 116,(kI 2),(kI 4)] 115,oPa 118 115 117,oM 111 118] (oQ 111 .skip (oH [oFa 120 5 7,oLf 121 120,oBk 122 .eql 121 1,oM 123 122,otm 124 21 123,oT 125 (.bin .neq (.t 124) (kI 5)) 123,oPa 126 123 125,oM 119 126] (oQ 119 (oH [oM 127 15,oC 128 69 [.t 127],oM 129 21,oM 130 16,oM 8 128,oM 9 129,oM 10 130] .ret) (oH [oM 102 2,oC 103 69 [.t 102],oM 104 21,oM 8 103,oM 9 104,oMi 10 0] .ret))))))))))))) (oG [oM 68 17,oBk 69 .add 68 1,oM 17 69])))))) (oH [oM 131 15,oC 132 69 [.t 131],oM 133 16,oM 8 132,oMi 9 0,oM 10 133] .ret)))))))))))⟩
def wjm:AFn:=⟨89,[.t 14,.t 15],(oH [oBx 11 4,oP 14 (.mv (.k (.nils))),oMi 15 0] (oH [oP 21 (.mksl true 3 0 [.int .i64 0,.int .i64 0,.str []] []),oM 16 21] (oH [oM 22 2,oM 23 3,oIa 24 1 22 23,oLt 25 1 24,oM 26 5,oC 27 70 [.t 25,.t 26],oM 17 27] (oS (oH [oM 28 17,oBk 29 .geq 28 0] (oQ 29 (oG [oM 30 2,oM 31 3,oIa 32 1 30 31,oFa 33 0 32,oLf 34 33,oM 35 17,oIa 36 2 34 35,oFa 37 1 36,oLf 38 37,oM 16 38]) .skip)) (oH [oM 40 0,oM 41 2,oM 42 3,oLt 43 6 11,oM 44 5,oM 45 6,oC 46 163 [.t 40,.t 41,.t 42,.t 43,.t 44,.t 45],oM 39 46,oEx 47 39 0,oEx 48 39 1,oM 18 47,oM 19 48] (oS (oH [oM 49 19,oBk 50 .neq 49 0] (oQ 50 (oH [oM 51 19,oP 14 (.mv (.k (.nils))),oM 15 51] .ret) .skip)) (oH [oP 52 (.mksl true 3 0 [.int .i64 0,.int .i64 0,.str []] []),oM 20 52] (oS (oH [oFa 53 0 11,oLf 54 53,oBk 55 .eql 54 1] (oQ 55 (oG [oM 56 2,oM 57 3,oIa 58 1 56 57,oLt 59 1 58,oC 60 164 [.t 59],oM 5 60]) .skip)) (oH [oM 61 18,oM 62 3,oIa 63 1 61 62,oLt 64 1 63,oM 65 5,oC 66 70 [.t 64,.t 65],oM 17 66] (oS (oH [oM 67 17,oBk 68 .geq 67 0] (oQ 68 (oG [oM 69 18,oM 70 3,oIa 71 1 69 70,oFa 72 0 71,oLf 73 72,oM 74 17,oIa 75 2 73 74,oFa 76 1 75,oLf 77 76,oM 20 77]) .skip)) (oH [oM 78 0,oM 79 1,oM 80 18,oM 81 3,oFa 82 0 11,oLf 83 82,oM 84 16,oM 85 20,oC 86 165 [.t 78,.t 79,.t 80,.t 81,.t 83,.t 84,.t 85,(kI 0)],oEx 87 86 0,oEx 88 86 1,oM 14 87,oM 15 88] .ret)))))))))))⟩
theorem zc8:jd Tryz.prog [11,21,52] 71=some wjm:=yak9
theorem znz{run:Chg->List Data->Res}{rep:Bool}(h:(insF run s k vals rep db).2.2=0):(insF run s k vals rep db).2.1=jct (jv db k):=by
 revert h;rw[insF];split
 ·rw[insC];split
  ·rw[insD];split
   ·exactλh=>by cases h
   ·rw[insE];split
    ·exactλh=>by cases h
    ·exactλ_=>rfl
  ·rename_i h2;exactλh=>absurd h h2
 ·rename_i h2;exactλh=>absurd h h2
set_option maxHeartbeats 2000000 in
theorem jlc(hs:SchG s){l:List we}(hT:wl s l=true){k:Nat}(hk:k<s.length)(x:Stmt)(hx:x.kind=1)(vals:List Val)(hf:fitF s[k] vals=true)(db:List Data)(h:DbG BI s db):
 Pure Tryz.prog 71 [.c (.fz (s.map ja)),.c (.fz (l.map wc)),.c (.fz (db.map jb)),.c (.int .i64 (k:Int)),.agg (zi x),.c (.int .i64 0),.c (.fz (vals.map encV))] (resV (insK (behT s l k x) s k x vals db)):=by
 refine yas zc8 λG=>?_;have hk2:k<db.length:=by rw[h.len];exact hk
 have hR:=h.rows k hk hk2;have hx1:(x.kind==1)=true:=beq_iff_eq.2 hx;have c1:=zai db[k] 0 (yaf hR.len gb);have h0:idxA (λr:RowD=>r.id==0) db[k].rows 0=-1:=by
  rcases zl db[k].rows 0 with⟨e,_⟩|⟨j,hj,_,e⟩
  ·exact e
  ·have h1:=(z8 e).2;have:=(hR.ids _ (yaa hj)).1;omega
 rw[h0]at c1;have c2:=zke hs hk x hx 0 vals hf db h;have hi:=wke hs hk (x:=x) hf h;have hid:=znz (run:=chgF s 12) (s:=s) (k:=k) (vals:=if(x.policy==3)=true then jl (tabN s k) 0 vals else vals) (rep:=x.policy==3) (db:=db);rw[jf hk2]at hid;have c3:=jhl db[k] hR.len λr hr=>⟨(hR.ids r hr).1,(hR.ids r hr).2⟩;rw[insJ]at c2 hi;simp only at hi;rw[insK];generalize insF (chgF s 12) s k (if(x.policy==3)=true then jl (tabN s k) 0 vals else vals) (x.policy==3) db=q at c2 hi hid⊢;obtain⟨qd,qi,qc⟩:=q;simp only at c2 hi hid;rw[behI];by_cases h2:qc=0
 ·subst h2;rw[if_pos rfl,behT];rw[<-hid rfl]at c3;have hqd:=hi rfl;have hn3:k<qd.length:=by rw[hqd.len];exact hk
  have hRn:=hqd.rows k hk hn3;rw[wgs]at c2;have c4:=zai qd[k] qi (yaf hRn.len gb);have c5:=jjm hs hT hk x.kind [] (nowF qd k qi) wdc (jkh hqd hk qi) qd hqd;generalize hz:zbm s l 6 k x.kind [] (nowF qd k qi) qd=z at c5⊢;rw[nowF,jf hn3]at c5;have hzr:resV z=.tup [.c (if z.2=0 then .fz (z.1.map jb)else .nils),.c (.int .i64 z.2)]:=rfl;rw[hzr]at c5;generalize (if z.2=0 then Ce.fz (z.1.map jb)else .nils)=w at c5 hzr;rcases zl qd[k].rows qi with⟨e1,e2⟩|⟨j,hj,e1,e2⟩
  ·rw[e1]at c4;rw[e2]at c5;repeat' first|refine X ?_|((first|apply yG|apply yH|apply yI);exact rfl;(first|exact yax jb rfl hk2|exact yax jb rfl hn3))|refine yaC (c1) ?_|refine yaC (c2) ?_|refine yaC (c3) ?_|refine yaC (c4) ?_|refine yaC (c5) ?_|exact yaF|refine Y ?_ ?_<;>intro _
   all_goals first
    |contradiction
    |exact .ret rfl (Fin.same hzr.symm (zg _ _))
  ·rw[e1]at c4;rw[e2]at c5;simp only at c5;repeat' first|refine X ?_|((first|apply yG|apply yH|apply yI);exact rfl;(first|exact yax jb rfl hk2|exact yax jb rfl hn3|exact yax jc rfl hj))|refine yaC (c1) ?_|refine yaC (c2) ?_|refine yaC (c3) ?_|refine yaC (c4) ?_|refine yaC (c5) ?_|exact yaF|refine Y ?_ ?_<;>intro _
   all_goals first
    |contradiction
    |exact .ret rfl (Fin.same hzr.symm (zg _ _))
 ·rw[if_neg h2];rw[waf (e:=qc) rfl h2]at c2;repeat' first|refine X ?_|((first|apply yG|apply yH|apply yI);exact rfl;(first|exact yax jb rfl hk2))|refine yaC (c1) ?_|refine yaC (c2) ?_|exact yaF|refine Y ?_ ?_<;>intro _
  all_goals first
   |contradiction
   |exact .ret rfl (Fin.same (jan h2).symm (zg _ _))
set_option maxHeartbeats 2000000 in
theorem wlc(hs:SchG s){l:List we}(hT:wl s l=true){k:Nat}(hk:k<s.length)(x:Stmt)(hG:StG s[k] x)(hx:¬x.kind=1)(id:Int)(vals:List Val)(db:List Data)(h:DbG BI s db){r:RowD}(hr:wav (jv db k) id=some r):
 Pure Tryz.prog 71 [.c (.fz (s.map ja)),.c (.fz (l.map wc)),.c (.fz (db.map jb)),.c (.int .i64 (k:Int)),.agg (zi x),.c (.int .i64 id),.c (.fz (vals.map encV))] (resV (rowK (behT s l k x) s k x r db)):=by
 refine yas zc8 λG=>?_;have hk2:k<db.length:=by rw[h.len];exact hk
 have hR:=h.rows k hk hk2;have hx1:(x.kind==1)=false:=beq_eq_false_iff_ne.2 hx;have c1:=zai db[k] id (yaf hR.len gb);have c2:=jke hs hk x hG hx id vals db h hr;have hi:=zkf hs hk hG h (z8 hr).1;have hfo:=jil h hk (z8 hr).1;have hid:r.id=id:=(z8 hr).2;have hr2:=hr;rw[jf hk2]at hr2;rcases zl db[k].rows id with⟨_,e2⟩|⟨j,hj,e1,e2⟩
 ·rw[e2]at hr2
  cases hr2
 rw[e2]at hr2;injection hr2 with hr2;rw[e1]at c1;rw[rowK,behR,hid];generalize rowJ s k x r db=q at c2 hi⊢;obtain⟨qd,qc⟩:=q;simp only at c2 hi⊢;by_cases h2:qc=0
 ·subst h2;rw[if_pos rfl,behT];have hqd:=hi rfl;have hn3:k<qd.length:=by rw[hqd.len];exact hk
  have hRn:=hqd.rows k hk hn3;rw[wgs]at c2;have c4:=zai qd[k] id (yaf hRn.len gb);have c5:=jjm hs hT hk x.kind r.vals (nowF qd k id) hfo (jkh hqd hk id) qd hqd;generalize hz:zbm s l 6 k x.kind r.vals (nowF qd k id) qd=z at c5⊢;rw[nowF,jf hn3]at c5;have hzr:resV z=.tup [.c (if z.2=0 then .fz (z.1.map jb)else .nils),.c (.int .i64 z.2)]:=rfl;rw[hzr]at c5;generalize (if z.2=0 then Ce.fz (z.1.map jb)else .nils)=w at c5 hzr;rw[<-hr2]at c5;rcases zl qd[k].rows id with⟨e3,e4⟩|⟨j2,hj2,e3,e4⟩
  ·rw[e3]at c4;rw[e4]at c5;repeat' first|refine X ?_|((first|apply yG|apply yH|apply yI);exact rfl;(first|exact yax jb rfl hk2|exact yax jb rfl hn3|exact yax jc rfl hj))|refine yaC (c1) ?_|refine yaC (c2) ?_|refine yaC (c4) ?_|refine yaC (c5) ?_|exact yaF|refine Y ?_ ?_<;>intro _
   all_goals first
    |contradiction
    |exact .ret rfl (Fin.same hzr.symm (zg _ _))
  ·rw[e3]at c4;rw[e4]at c5;simp only at c5;repeat' first|refine X ?_|((first|apply yG|apply yH|apply yI);exact rfl;(first|exact yax jb rfl hk2|exact yax jb rfl hn3|exact yax jc rfl hj|exact yax jc rfl hj2))|refine yaC (c1) ?_|refine yaC (c2) ?_|refine yaC (c4) ?_|refine yaC (c5) ?_|exact yaF|refine Y ?_ ?_<;>intro _
   all_goals first
    |contradiction
    |exact .ret rfl (Fin.same hzr.symm (zg _ _))
 ·rw[if_neg h2];rw[waf (e:=qc) rfl h2]at c2;repeat' first|refine X ?_|((first|apply yG|apply yH|apply yI);exact rfl;(first|exact yax jb rfl hk2|exact yax jc rfl hj))|refine yaC (c1) ?_|refine yaC (c2) ?_|exact yaF|refine Y ?_ ?_<;>intro _
  all_goals first
   |contradiction
   |exact .ret rfl (Fin.same (jan h2).symm (zg _ _))
theorem wil{s:List zd}{db0:List Data}(h0:DbG BI s db0){x:Stmt}:∀{J:List (List Data->Res)} {now:List Data} {m:Int},(∀j∈J,∀now,DbG BI s now->(j now).2=0->DbG BI s (j now).1)->DbG BI s now->DbG BI s (wdh db0 x J now m).1
 |[],_,_,_,h=>h
 |j::r,now,m,hJ,h=>by
  have hr:∀j∈r,∀now,DbG BI s now->(j now).2=0->DbG BI s (j now).1:=λj hj=>hJ j (by simp[hj]);rw[wdh];split
  ·rename_i hq;exact wil h0 hr (hJ j gx now h hq)
  ·split
   ·exact wil h0 hr h
   ·split
    ·exact h
    ·exact h0
def ExT(s:List zd)(l:List we)(db:List Data)(x:Stmt):Ins:=if(dbF s db&&(l7F s x&&wl s l))=true then jha (behT s l (idxA (λu:zd=>u.name==x.table) s 0).toNat x) s (idxA (λu:zd=>u.name==x.table) s 0).toNat x db else([],1,0)
theorem zmg(hs:SchG s){k:Nat}{hk:k<s.length}{beh:Beh}(hB:BehK s k hk beh){x:Stmt}(hG:StG s[k] x){db:List Data}(h:DbG BI s db):DbG BI s (jha beh s k x db).1:=by
 rw[jha];split
 ·refine wil h (λj hj now hn h0=>?_) h;rw[wmc]at hj;split at hj
  ·obtain⟨r,hr,rfl⟩:=List.mem_map.1 hj;exact zki hs hB (hG.rows.2 r hr) hn h0
  ·obtain⟨id,hid,rfl⟩:=List.mem_map.1 hj;exact jng hs hB hG hn h0
 ·exact h
theorem zim(s:List zd)(l:List we)(db:List Data)(x:Stmt)(hx:s.length<=34359738368)(hb:∀t∈s,zah 34359738368 t)(hl:l.length<=34359738368)(hlb:∀t∈l,w9 34359738368 t)(hd:db.length<=34359738368)(hdb:∀d∈db,jbz 34359738368 d)(hq:zes 34359738368 x)(G:wa):
 Ok Tryz.prog 20 [.c (.fz (s.map ja)),.c (.fz (l.map wc)),.c (.fz (db.map jb)),.agg (zi x)] G (NewV G (.tup [.c (.fz ((ExT s l db x).1.map jb)),.c (.int .i64 (ExT s l db x).2.1),.c (.int .i64 (ExT s l db x).2.2)])):=by
 refine Ok.newV (Ok.run0 mixed zdn gz λhS hA=>?_);clear hS hA;have c1:=jns s db hx hb hd hdb;have c2:=wl8 s x hx hb hq;have c3:=wii s l hx hb hl hlb;rw[ExT]
 cases h1:dbF s db
 ·rw[h1]at c1;rw[ybi,if_neg yah];repeat' first|refine X ?_|refine yaC (c1) ?_|refine yaC (c2) ?_|refine yaC (c3) ?_|exact yaF|refine Y ?_ ?_<;>intro _
  exact .ret rfl ⟨.refl,.three .nil⟩
 ·rw[h1]at c1;have hsc:=(zjd h1).1;rw[jlb,hsc,yaz]at c2;rw[yaz]
  cases h2:l7F s x
  ·rw[h2]at c2;rw[ybi,if_neg yah];repeat' first|refine X ?_|refine yaC (c1) ?_|refine yaC (c2) ?_|refine yaC (c3) ?_|exact yaF|refine Y ?_ ?_<;>intro _
   exact .ret rfl ⟨.refl,.three .nil⟩
  ·rw[h2]at c2;rw[yaz]
   cases h3:wl s l
   ·rw[h3]at c3;rw[if_neg yah];repeat' first|refine X ?_|refine yaC (c1) ?_|refine yaC (c2) ?_|refine yaC (c3) ?_|exact yaF|refine Y ?_ ?_<;>intro _
    exact .ret rfl ⟨.refl,.three .nil⟩
   ·rw[h3]at c3;rw[if_pos rfl];have hs:=schG hsc hb;obtain⟨k,hk,hidx,hG⟩:=wl9 hq h2;rw[hidx,ybh];have c4:=zna hs hk (wmd hs h3 (λt ht=>(hlb t ht).2.1.1) hk x) x hG hidx db (dbB h1) G;rw[insV]at c4;generalize jha (behT s l k x) s k x db=q at c4⊢;repeat' first|refine X ?_|refine yaC (c1) ?_|refine yaC (c2) ?_|refine yaC (c3) ?_|exact yaF|refine Y ?_ ?_<;>intro _
    refine .call _ rfl rfl rfl c4 ?_;rintro r9 V2 hq9;obtain⟨g,hr9,gr,hg⟩:=jjf (.int _ _) (.int _ _) hq9;rw[hr9];repeat' first|refine X ?_|exact yaF|refine Y ?_ ?_<;>intro _
    exact .ret rfl ⟨.ofGr gr (yai _),.three hg⟩
theorem wha(s:List zd)(l:List we)(db:List Data)(x:Stmt)(hx:s.length<=34359738368)(hb:∀t∈s,zah 34359738368 t)(hl:l.length<=34359738368)(hlb:∀t∈l,w9 34359738368 t)(hd:db.length<=34359738368)(hdb:∀d∈db,jbz 34359738368 d)(hq:zes 34359738368 x):
 (ExT s l db x).1.length<=34359738368/\(∀y∈(ExT s l db x).1,jbz 34359738368 y)/\1+cntL wo (ExT s l db x).1<=34359738368:=by
 rw[ExT];split
 ·rename_i h0;simp only[Bool.and_eq_true]at h0;obtain⟨h1,h2,h3⟩:=h0;have hs:=schG (zjd h1).1 hb;obtain⟨k,hk,hidx,hG⟩:=wl9 hq h2;rw[hidx,ybh];exact znw hs (zmg hs (wkh hs h3 hk x) hG (dbB h1))
 ·exact⟨yad _,λx hx=>(by cases hx),gb⟩
theorem jmg{α:Type}{J L:List α}(h:J=L){i:Nat}(hi:i<J.length):J[i]=L[i]'(h▸hi):=by subst h;rfl
set_option maxHeartbeats 4000000 in
theorem jim(s:List zd)(l:List we)(db:List Data)(x:Stmt)(hx:s.length<=34359738368)(hb:∀t∈s,zah 34359738368 t)(hl:l.length<=34359738368)(hlb:∀t∈l,w9 34359738368 t)(hd:db.length<=34359738368)(hdb:∀d∈db,jbz 34359738368 d)(hq:zes 34359738368 x):
 Pure Tryz.prog 15 [.c (.fz (s.map ja)),.c (.fz (l.map wc)),.c (.fz (db.map jb)),.agg (zi x)] (.tup [.c (.fz ((ExT s l db x).1.map jb)),.c (.int .i64 (ExT s l db x).2.1),.c (.int .i64 (ExT s l db x).2.2)]):=by
 refine yaq [7,70] wex λG=>?_;have c1:=jm2 s db hx hb hd hdb;have c3:=zha s l hx hb hl hlb;rw[ExT]
 cases h3:wl s l
 ·rw[h3]at c3;rw[ybk,ybk,if_neg yah];repeat' first|refine X ?_|refine yaC (c3) ?_|exact yaF|refine Y ?_ ?_<;>intro _
  exact .ret rfl .nil3
 rw[h3]at c3
 cases h1:dbF s db
 ·rw[h1]at c1;rw[ybi,if_neg yah];repeat' first|refine X ?_|refine yaC (c1) ?_|refine yaC (c3) ?_|exact yaF|refine Y ?_ ?_<;>intro _
  exact .ret rfl .nil3
 rw[h1]at c1;have hsc:=(zjd h1).1;have c2:=zl9 s x hsc hx hb hq
 cases h2:l7F s x
 ·rw[h2]at c2;rw[yaz,ybi,if_neg yah];repeat' first|refine X ?_|refine yaC (c1) ?_|refine yaC (c2) ?_|refine yaC (c3) ?_|exact yaF|refine Y ?_ ?_<;>intro _
  exact .ret rfl .nil3
 rw[h2]at c2;rw[yaz,yaz,if_pos rfl];have hs:=schG hsc hb;obtain⟨k,hk,hidx,hG⟩:=wl9 hq h2;rw[hidx,ybh];have h:=dbB h1;have hT:=h3;have hB:=wkh hs hT hk x;have hk2:k<db.length:=by rw[h.len];exact hk
 have hR:=h.rows k hk hk2;have cat:=jc1 s x.table (yaf hs.few gb);rw[hidx]at cat;have cm:=NewV.pure (wif db[k] x.wher (yaf hR.len gb) (yaf hG.wher.1 gb) λh0 r hr=>⟨(hR.fit r hr).2,by rw[(hR.fit r hr).1];exact hG.wher.2 h0⟩);have hml:=wev (l:=db[k].rows) (w:=x.wher);have hr60:=hR.len;have hr8:=hG.rows.1;have cc:∀{now:List Data},DbG BI s now->Pure Tryz.prog 69 [.c (.fz (now.map jb))] (.c (.fz (now.map jb))):=λ{now} hn=>by
  obtain⟨b1,b2,b3⟩:=zl7 hs hn;exact jl2 now O λd hd=>⟨(b3 d hd).2.1,λr hr=>by have:=((b3 d hd).2.2 r hr).2.1;omega⟩
 have c0:=cc h;rw[jha,wmc,jf hk2];generalize wak db[k].rows x.wher=mf at cm hml⊢;obtain⟨ids,b⟩:=mf;simp only at cm hml⊢
 cases b
 ·rw[if_neg yah];repeat' first|refine X ?_|((first|apply yG|apply yH|apply yI);exact rfl;(first|exact yax jb rfl hk2))|refine yaC (c1) ?_|refine yaC (c2) ?_|refine yaC (c3) ?_|refine yaC (cat) ?_|refine yaC (cm) ?_|refine yaC (c0) ?_|exact yaF|refine Y ?_ ?_<;>intro _
  exact .ret rfl (Fin.same rfl (zec _ _ _ _))
 rw[if_pos rfl];obtain⟨J,hJ⟩:∃J,J=(if x.kind=1 then x.rows.map λr=>insK (behT s l k x) s k x r.vals else ids.map λid=>idK (behT s l k x) s k x id):=⟨_,rfl⟩;rw[<-hJ];have hJl:J.length<=60:=by
  rw[hJ];split
  ·rw[yae];omega
  ·rw[yae];omega
 repeat' first|refine X ?_|((first|apply yG|apply yH|apply yI);exact rfl;(first|exact yax jb rfl hk2))|refine yaC (c1) ?_|refine yaC (c2) ?_|refine yaC (c3) ?_|refine yaC (cat) ?_|refine yaC (cm) ?_|fail
 refine Go.meet (K':=[_]) (λfr V'=>fr=[(0,AV.c (.fz (s.map ja))),(1,.c (.fz (l.map wc))),(2,.c (.fz (db.map jb))),(7,.c (.fp (zi x))),(11,.c (.int .i64 (k:Int))),(12,.c (.fz (ids.map encI))),(14,.c (.int .i64 (J.length:Int)))]/\V'=E G []) ?_ ?_
 ·intro K hrec;by_cases hx:x.kind=1
  ·have hx1:(x.kind==1)=true:=beq_iff_eq.2 hx;rw[if_pos hx]at hJ;have hJn:J.length=x.rows.length:=by rw[hJ,yae]
   repeat' first|refine X ?_|exact yaF|refine Y ?_ ?_<;>intro _
   all_goals first
    |contradiction
    |exact Go.keep [0,1,2,7,11,12,14] (hrec _ _ ⟨by rw[hJn];rfl,rfl⟩)
  ·have hx1:(x.kind==1)=false:=beq_eq_false_iff_ne.2 hx;rw[if_neg hx]at hJ;have hJn:J.length=ids.length:=by rw[hJ,yae]
   repeat' first|refine X ?_|exact yaF|refine Y ?_ ?_<;>intro _
   all_goals first
    |contradiction
    |exact Go.keep [0,1,2,7,11,12,14] (hrec _ _ ⟨by rw[hJn];rfl,rfl⟩)
 rintro fr V' ⟨rfl,rfl⟩;clear c1 c2 c3 cat cm;repeat' first|refine X ?_|exact yaF|refine Y ?_ ?_<;>intro _
 refine Go.keep [0,1,2,7,11,12,14,15,16,17] (Go.loops (I:=λm fr V=>∃(i:Nat) (ki:Int) (now:List Data) (mc:Nat) (km:Int),m=J.length-i/\i<=J.length/\ki=i/\(DbG BI s now/\mc<=i/\km=mc/\wdh db x J db 0=wdh db x (J.drop i) now km)/\
  fr=[(0,.c (.fz (s.map ja))),(1,.c (.fz (l.map wc))),(2,.c (.fz (db.map jb))),(7,.c (.fp (zi x))),(11,.c (.int .i64 (k:Int))),(12,.c (.fz (ids.map encI))),(14,.c (.int .i64 (J.length:Int))),(15,.c (.fz (now.map jb))),(16,.c (.int .i64 km)),(17,.c (.int .i64 ki))]/\V=E G []) ?_ _ _ _ ⟨0,_,db,0,_,rfl,yad _,rfl,⟨h,yai _,rfl,rfl⟩,rfl,rfl⟩)
 rintro m fr V ⟨i,ki,now,mc,km,rfl,hi,hki,⟨hnow,hmc,hkm,hst⟩,rfl,rfl⟩ hrec;have cn:=cc hnow;by_cases hlt:i<J.length
 ·have hw1:IntKind.i64.wrap (km+1)=km+1:=jg O O;have hn3:k<now.length:=by rw[hnow.len];exact hk
  have hRn:=hnow.rows k hk hn3;rw[yab hlt,wdh]at hst;by_cases hno:¬x.kind=1/\∃hi2:i<ids.length,wav now[k].rows ids[i]=none
  ·obtain⟨hx,hi2,hno⟩:=hno;rw[if_neg hx]at hJ;have hJi:J[i] now=([],-1):=by
    rw[jmg hJ hlt,List.getElem_map,idK,jf hn3,hno]
   rw[hJi,if_neg gb,if_pos (.inl rfl)]at hst;have c5:=zai now[k] ids[i] (yaf hRn.len gb);rcases zl now[k].rows ids[i]with⟨hx1,_⟩|⟨j,hj,_,hx2⟩
   ·rw[hx1]at c5;repeat' first|refine X ?_|((first|apply yG|apply yH|apply yI);exact rfl;(first|exact yax encI hki hi2|exact yax jb rfl hn3))|refine yaC (c5) ?_|exact yaF|refine Y ?_ ?_<;>intro _
    all_goals first
     |contradiction
     |exact Go.keep [0,1,2,7,11,12,14,15,16,17] (hrec _ _ _ O ⟨i+1,_,now,mc,_,rfl,hlt,wb hki O,⟨hnow,O,hkm,hst⟩,rfl,rfl⟩)
   ·rw[hno]at hx2
    cases hx2
  ·repeat' first|refine X ?_|fail
   rw[decide_eq_true (show ki<(J.length:Int) by omega)];repeat' first|refine X ?_|fail
   refine Go.meet (K':=[_]) (λfr V'=>(∃(idv:Int) (vals:List Val),Pure Tryz.prog 71 [.c (.fz (s.map ja)),.c (.fz (l.map wc)),.c (.fz (now.map jb)),.c (.int .i64 (k:Int)),.agg (zi x),.c (.int .i64 idv),.c (.fz (vals.map encV))] (resV (J[i] now))/\
    fr=[(0,AV.c (.fz (s.map ja))),(1,.c (.fz (l.map wc))),(2,.c (.fz (db.map jb))),(7,.c (.fp (zi x))),(11,.c (.int .i64 (k:Int))),(12,.c (.fz (ids.map encI))),(14,.c (.int .i64 (J.length:Int))),(15,.c (.fz (now.map jb))),(16,.c (.int .i64 km)),(17,.c (.int .i64 ki)),(18,.c (.int .i64 idv)),(19,.c (.fz (vals.map encV)))])/\0<=(J[i] now).2/\((J[i] now).2=0->DbG BI s (J[i] now).1)/\V'=E G []) ?_ ?_
   ·intro K hm;clear hrec hst;by_cases hx:x.kind=1
    ·have hx1:(x.kind==1)=true:=beq_iff_eq.2 hx;rw[if_pos hx]at hJ;have hlr:i<x.rows.length:=by rw[hJ,yae]at hlt;exact hlt
     have hJi:J[i] now=insK (behT s l k x) s k x x.rows[i].vals now:=by rw[jmg hJ hlt,List.getElem_map]
     have hfit:=hG.rows.2 _ (yaa hlr);have c3:=jlc hs hT hk x hx x.rows[i].vals hfit now hnow;have hkp:=zki hs hB (x:=x) hfit hnow;have hcd:0<=(insK (behT s l k x) s k x x.rows[i].vals now).2:=jm9 hB.cod wfn;rw[<-hJi]at c3 hkp hcd;repeat' first|refine X ?_|((first|apply yG|apply yH|apply yI);exact rfl;(first|exact yax jc hki hlr))|exact yaF|refine Y ?_ ?_<;>intro _
     all_goals first
      |contradiction
      |exact Go.keep [0,1,2,7,11,12,14,15,16,17,18,19] (hm _ _ ⟨⟨_,_,c3,rfl⟩,hcd,hkp,rfl⟩)
    ·have hx1:(x.kind==1)=false:=beq_eq_false_iff_ne.2 hx;rw[if_neg hx]at hJ;have hlr:i<ids.length:=by rw[hJ,yae]at hlt;exact hlt
     have c5:=zai now[k] ids[i] (yaf hRn.len gb);rcases zl now[k].rows ids[i]with⟨_,hx2⟩|⟨j,hj,hj1,hj2⟩
     ·exact absurd ⟨hx,hlr,hx2⟩ hno
     have hrow:wav (jv now k) ids[i]=some now[k].rows[j]:=by rw[jf hn3];exact hj2
     have hJi:J[i] now=rowK (behT s l k x) s k x now[k].rows[j] now:=by
      rw[jmg hJ hlt,List.getElem_map,idK,hrow]
     have c3:=wlc hs hT hk x hG hx ids[i] [] now hnow hrow;have hkp:=zmd hs hB hG hnow (z8 hrow).1;have hcd:0<=(rowK (behT s l k x) s k x now[k].rows[j] now).2:=wm9 hB.cod zm8;rw[<-hJi]at c3 hkp hcd;rw[hj1]at c5;repeat' first|refine X ?_|((first|apply yG|apply yH|apply yI);exact rfl;(first|exact yax encI hki hlr|exact yax jb rfl hn3))|refine yaC (c5) ?_|exact yaF|refine Y ?_ ?_<;>intro _
     all_goals first
      |contradiction
      |exact Go.keep [0,1,2,7,11,12,14,15,16,17,18,19] (hm _ _ ⟨⟨_,_,c3,rfl⟩,hcd,hkp,rfl⟩)
   rintro fr V' ⟨⟨idv,vals,c3,rfl⟩,hcd,hkp,rfl⟩;clear hno;generalize J[i] now=q at c3 hcd hkp hst;have hne:¬q.2=-1:=O;by_cases hq:q.2=0
   ·rw[if_pos hq]at hst;rw[jaj hq]at c3;have hnq:=hkp hq;rw[<-hw1]at hst;repeat' first|refine X ?_|refine yaC (c3) ?_|exact yaF|refine Y ?_ ?_<;>intro _
    all_goals first
     |contradiction
     |exact Go.keep [0,1,2,7,11,12,14,15,16,17] (hrec _ _ _ O ⟨i+1,_,q.1,mc+1,_,rfl,hlt,wb hki O,⟨hnq,O,wb hkm O,hst⟩,rfl,rfl⟩)
   ·obtain⟨e,he⟩:∃e,q.2=e:=⟨_,rfl⟩;rw[if_neg hq,he]at hst;rw[he]at hq hne;rw[waf he hq]at c3;have c4:=wa4 e 2 4;rw[jl9]at hst;by_cases hp:x.policy=2
    ·rw[beq_iff_eq.2 hp,yaz]at hst;have hp1:¬x.policy=1:=O
     cases hin:isIn e 2 4
     ·rw[hin]at c4 hst;rw[if_neg (λh=>by rcases h with h|h;exact hne h;cases h),if_neg (λh=>hp1 h.1)]at hst;rw[hst];repeat' first|refine X ?_|refine yaC (c4) ?_|refine yaC (c3) ?_|refine yaC (c0) ?_|exact yaF|refine Y ?_ ?_<;>intro _
      all_goals first
       |contradiction
       |exact .ret rfl (Fin.same rfl (zec _ _ _ _))
       |(exfalso;simp_all;done)
     ·rw[hin]at c4 hst;rw[if_pos (.inr rfl)]at hst;repeat' first|refine X ?_|refine yaC (c4) ?_|refine yaC (c3) ?_|exact yaF|refine Y ?_ ?_<;>intro _
      all_goals first
       |contradiction
       |exact Go.keep [0,1,2,7,11,12,14,15,16,17] (hrec _ _ _ O ⟨i+1,_,now,mc,_,rfl,hlt,wb hki O,⟨hnow,O,hkm,hst⟩,rfl,rfl⟩)
       |(exfalso;simp_all;done)
    ·rw[beq_eq_false_iff_ne.2 hp,ybi,if_neg (λh=>by rcases h with h|h;exact hne h;cases h)]at hst;by_cases hp1:x.policy=1/\¬e=5
     ·rw[if_pos hp1]at hst;obtain⟨hp1,h5⟩:=hp1;rw[hst];repeat' first|refine X ?_|refine yaC (c4) ?_|refine yaC (c3) ?_|refine yaC (cn) ?_|exact yaF|refine Y ?_ ?_<;>intro _
      all_goals first
       |contradiction
       |exact .ret rfl (Fin.same rfl (zec _ _ _ _))
       |(exfalso;simp_all;done)
     ·rw[if_neg hp1]at hst;rw[hst];repeat' first|refine X ?_|refine yaC (c4) ?_|refine yaC (c3) ?_|refine yaC (c0) ?_|exact yaF|refine Y ?_ ?_<;>intro _
      all_goals first
       |contradiction
       |exact .ret rfl (Fin.same rfl (zec _ _ _ _))
       |(exfalso;simp_all;done)
 ·rw[yac O,wdh]at hst;rw[hst];repeat' first|refine X ?_|refine yaC (cn) ?_|exact yaF|refine Y ?_ ?_<;>intro _
  exact .ret rfl (Fin.same rfl (zec _ _ _ _))
theorem zee{α:Type}{h:α->Int->Int}{c:α->Int}(hh:∀a k,h a k=-1\/h a k=k+c a):∀(xs:List α) (k:Int),jbd h xs k=-1\/jbd h xs k=k+cntL c xs
 |[],k=>by simp[jbd,cntL]
 |a::r,k=>by
  simp only[jbd,cntL];split
  ·exact .inl rfl
  ·rename_i h0;rcases hh a k with h1|h1
   ·omega
   ·rw[h1];rcases zee hh r (k+c a)with h2|h2
    ·exact .inl h2
    ·right;rw[h2];omega
theorem zjn(v:Val)(k:Int):jd9 v k=-1\/jd9 v k=k+3:=by
 simp only[jd9];split
 ·exact .inr rfl
 ·exact .inl rfl
def zgv(r:RowD)(k:Int):Int:=if r.id=k then jbd jd9 r.vals (k+1)else -1
def zld(d:Data)(k:Int):Int:=jbd zgv d.rows k
theorem jld(r:RowD)(k:Int)(hk:0<=k):zgv (zcl r k) k=k+jn r:=by
 have h:=zdb (c:=λ_=>3) zk8 (λ_=>by decide) r.vals (k+1) O;rw[zgv,jn];show(if k=k then jbd jd9 (wz zky (λ_=>3) r.vals (k+1)) (k+1)else -1)=_;rw[if_pos rfl,h];omega
theorem jna(r:RowD)(k:Int):zgv r k=-1\/zgv r k=k+jn r:=by
 rw[zgv,jn];split
 ·rcases zee (c:=λ_=>3) zjn r.vals (k+1)with h|h
  ·exact .inl h
  ·right;rw[h];omega
 ·exact .inl rfl
theorem wld(d:Data)(k:Int)(hk:0<=k):zld (wbf d k) k=k+wo d:=by
 rw[zld,wo,ybw];exact zdb jld jaa d.rows k hk
theorem jki(xs:List RowD)(k:Int)(hx:xs.length<=34359738368)(hkl:∀e∈xs,e.vals.length<=34359738368)(hk0:0<=k)(hk:k+cntL jn xs<=34359738368):Pure Tryz.prog 103 [.c (.fz (xs.map jc)),.c (.int .i64 k)] (.c (.int .i64 (jbd zgv xs k))):=by
 refine yaq [] zfy λG=>?_;repeat' first|refine X ?_|exact yaF|refine Y ?_ ?_<;>intro _
 refine Go.keep [0,1,5] (Go.loops (I:=λm fr V=>∃i:Nat,∃n l:Int,m=xs.length-i/\i<=xs.length/\n=i/\(0<=l/\l+cntL jn (xs.drop i)<=34359738368/\jbd zgv xs k=jbd zgv (xs.drop i) l)/\
  fr=[(0,.c (.fz (xs.map jc))),(1,.c (.int .i64 l)),(5,.c (.int .i64 n))]/\V=E G []) ?_ _ _ _ ⟨0,_,_,rfl,Nat.zero_le _,rfl,⟨hk0,by simpa using hk,rfl⟩,rfl,rfl⟩)
 rintro m fr V ⟨i,n,l,rfl,hi,hn,⟨hl0,hl,hsl⟩,rfl,rfl⟩ hrec;by_cases hlt:i<xs.length
 ·have hdr:=yab hlt;have hn0:=ze jaa (xs.drop (i+1));have hn1:=ze (c:=λ_:Val=>3) (λ_=>by decide) xs[i].vals;rw[hdr]at hl;simp only[cntL,jn]at hl;rw[hdr,jbd,zgv]at hsl;have hor:=zee (c:=λ_=>3) zjn xs[i].vals (l+1);have hc:=wkb xs[i].vals (l+1) (hkl _ (yaa hlt)) O O;have hw:IntKind.i64.wrap (l+1)=l+1:=jg O O;have hl2:cntL jn (xs.drop (i+1))+(l+1+cntL (λ_=>3) xs[i].vals)<=34359738368:=by
   have e:cntL jn (xs.drop (i+1))=cntL jn (xs.drop (i+1)):=rfl;omega
  generalize jbd jd9 xs[i].vals (l+1)=l1 at hc hor hsl;rw[<-hw]at hc;by_cases h0:xs[i].id=l
  ·rw[if_pos h0]at hsl;repeat' first|refine X ?_|((first|apply yG|apply yH|apply yI);exact rfl;(first|exact yax jc hn hlt))|refine yaC (hc) ?_|exact yaF|refine Y ?_ ?_<;>intro _
   all_goals first
    |(exfalso;omega)
    |contradiction
    |skip
   ·rename_i h1;rw[if_pos h1]at hsl;exact .ret rfl (.int hsl.symm)
   ·rename_i h1;rw[if_neg h1]at hsl;exact Go.keep [0,1,5] (hrec _ _ _ O ⟨i+1,_,_,rfl,hlt,wb hn O,⟨O,O,hsl⟩,rfl,rfl⟩)
  ·rw[if_neg h0]at hsl;repeat' first|refine X ?_|((first|apply yG|apply yH|apply yI);exact rfl;(first|exact yax jc hn hlt))|refine yaC (hc) ?_|exact yaF|refine Y ?_ ?_<;>intro _
   all_goals first
    |(exfalso;omega)
    |contradiction
    |skip
   exact .ret rfl (.int hsl.symm)
 ·repeat' first|refine X ?_|exact yaF|refine Y ?_ ?_<;>intro _
  refine .ret rfl (.int ?_);rw[hsl,yac O]
  rfl
theorem jjn(xs:List Data)(k:Int)(hx:xs.length<=34359738368)(hkl:∀e∈xs,e.rows.length<=34359738368/\∀r∈e.rows,r.vals.length<=34359738368)(hk0:0<=k)(hk:k+cntL wo xs<=34359738368):Pure Tryz.prog 29 [.c (.fz (xs.map jb)),.c (.int .i64 k)] (.c (.int .i64 (jbd zld xs k))):=by
 refine yaq [] we5 λG=>?_;repeat' first|refine X ?_|exact yaF|refine Y ?_ ?_<;>intro _
 refine Go.keep [0,1,5] (Go.loops (I:=λm fr V=>∃i:Nat,∃n l:Int,m=xs.length-i/\i<=xs.length/\n=i/\(0<=l/\l+cntL wo (xs.drop i)<=34359738368/\jbd zld xs k=jbd zld (xs.drop i) l)/\
  fr=[(0,.c (.fz (xs.map jb))),(1,.c (.int .i64 l)),(5,.c (.int .i64 n))]/\V=E G []) ?_ _ _ _ ⟨0,_,_,rfl,Nat.zero_le _,rfl,⟨hk0,by simpa using hk,rfl⟩,rfl,rfl⟩)
 rintro m fr V ⟨i,n,l,rfl,hi,hn,⟨hl0,hl,hsl⟩,rfl,rfl⟩ hrec;by_cases hlt:i<xs.length
 ·have hdr:=yab hlt;have hn0:=ze jay (xs.drop (i+1));have hn1:=ze jaa xs[i].rows;rw[hdr]at hl;simp only[cntL,wo,Int.zero_add]at hl;rw[hdr,jbd,zld]at hsl;have hor:=zee jna xs[i].rows l;have hk1:=hkl _ (yaa hlt);have hl2:cntL wo (xs.drop (i+1))+(l+cntL jn xs[i].rows)<=34359738368:=by
   have e:cntL wo (xs.drop (i+1))=cntL (λa=>cntL jn a.rows) (xs.drop (i+1)):=by
    congr 1
    funext a;exact ybw _
   omega
  have hc:=jki xs[i].rows l hk1.1 hk1.2 hl0 O;generalize jbd zgv xs[i].rows l=l1 at hc hor hsl;repeat' first|refine X ?_|((first|apply yG|apply yH|apply yI);exact rfl;(first|exact yax jb hn hlt))|refine yaC (hc) ?_|exact yaF|refine Y ?_ ?_<;>intro _
  ·rename_i h1;rw[if_pos h1]at hsl;exact .ret rfl (.int hsl.symm)
  ·rename_i h1;rw[if_neg h1]at hsl;exact Go.keep [0,1,5] (hrec _ _ _ O ⟨i+1,_,_,rfl,hlt,wb hn O,⟨O,O,hsl⟩,rfl,rfl⟩)
 ·repeat' first|refine X ?_|exact yaF|refine Y ?_ ?_<;>intro _
  refine .ret rfl (.int ?_);rw[hsl,yac O]
  rfl
theorem zhp:∀(ws:List RowD) (k:Int),(∀x∈ws,wer 34359738368 x)->(∀e∈wz zcl jn ws k,e.vals.length<=34359738368)/\cntL jn (wz zcl jn ws k)=cntL jn ws
 |[],k,_=>⟨λe he=>(by cases he),rfl⟩
 |a::ws,k,h=>by
  obtain⟨i1,i2⟩:=zhp ws (k+jn a) λx hx=>h x (by simp[hx]);have hml:(zcl a k).vals.length=a.vals.length:=j7;refine⟨λe he=>?_, ?_⟩
  ·rw[wz]at he;rcases List.mem_cons.1 he with rfl|he
   ·rw[hml];exact(h a gx).1
   ·exact i1 e he
  ·rw[wz,cntL,cntL,i2,jn,jn,cnt3,cnt3,hml]
theorem jgv:∀(ws:List Data) (k:Int),(∀x∈ws,jbz 34359738368 x)->(∀e∈wz wbf wo ws k,e.rows.length<=34359738368/\∀r∈e.rows,r.vals.length<=34359738368)/\cntL wo (wz wbf wo ws k)=cntL wo ws
 |[],k,_=>⟨λe he=>(by cases he),rfl⟩
 |a::ws,k,h=>by
  obtain⟨i1,i2⟩:=jgv ws (k+wo a) λx hx=>h x (by simp[hx]);have ha:=h a gx;obtain⟨j1,j2⟩:=zhp a.rows k ha.2;have hml:(wbf a k).rows.length=a.rows.length:=j7;refine⟨λe he=>?_, ?_⟩
  ·rw[wz]at he;rcases List.mem_cons.1 he with rfl|he
   ·exact⟨by rw[hml];exact ha.1,j1⟩
   ·exact i1 e he
  ·have e1:wo (wbf a k)=wo a:=by
    rw[wo,wo];exact congrArg (0+ ·) j2
   rw[wz,cntL,cntL,i2,e1]
theorem wjn(ws:List Data)(w1:ws.length<=34359738368)(w2:∀x∈ws,jbz 34359738368 x)(w3:1+cntL wo ws<=34359738368):Pure Tryz.prog 29 [.c (.fz ((wz wbf wo ws 1).map jb)),.c (.int .i64 1)] (.c (.int .i64 (1+cntL wo ws))):=by
 obtain⟨h2,h3⟩:=jgv ws 1 w2;have:=jjn (wz wbf wo ws 1) 1 (by rw[j7];exact w1) h2 gb (by rw[h3];exact w3);rw[zdb wld jay ws 1 gb]at this;exact this
theorem zjo(ws:List Data):0<=cntL wo ws:=ze jay ws
def jks(a:SetS)(k:Int):SetS:=⟨k,wz jet jx a.expr (k+1)⟩
def wa1(a:SetS):Int:=1+cntL jx a.expr
theorem wb7(a:SetS):0<=wa1 a:=by
 have:=ze (c:=jx) j5 a.expr;simp only[wa1];omega
theorem zle(a:SetS)(l:Int)(h:0<=l)(hs:0<=zdu a l):wa1 a<=8*(l-zdu a l)+8:=by
 have:=zan (fs:=[(szL zTok a.expr)]) (.cons (c:=cntL jx a.expr) (λq h hs=>zaf jag zc4 a.expr q h hs) .nil) l h hs;simp only[wa1];simp only[zdu]at hs⊢;omega
theorem jjo(xs:List SetS)(k:Int)(hx:xs.length<=34359738368)(hb:∀a∈xs,wfk 34359738368 a)(hk0:0<=k)(hk:k+cntL wa1 xs<=34359738368):jdd Tryz.prog 102 (.fz (xs.map wi)) (.fz ((wz jks wa1 xs k).map wi)) k (k+cntL wa1 xs):=by
 refine wau mixed wd0 gz gz wi jks wa1 wb7 xs k hx hk0 hk ?_;intro n0 rets R K G V S x i ni ki ys hi fr hn0 hyl hni hki0 hki1 h0 h1 h5 hmem hh hnext;have hi':i<(ys.map wi).length:=by simpa using hi
 have hyi:(ys.map wi)[i]=wi ys[i]:=gx;have hb:=hb _ hmem;obtain⟨id,v,c,rfl⟩:=hh.shape hi';have hh:Has V S (.fz ((ys.map wi).set i (wi ys[i]))) (.sl id v 0 (ys.map wi).length c):=by rw[<-hyi,yay];exact hh
 have hfr:∀a,¬S a->V.get a=V.get a:=λ_ _=>rfl;have hnx:V.next=V.next:=rfl;refine .same (waa h0 h1 h5) ?_;have hset:∀q,(ys.set i q).map wi=(ys.map wi).set i (wi q):=λq=>ybm;have hc0:=ze (c:=jx) j5 ys[i].expr;simp only[wa1]at hki1;obtain⟨es0,e0,hg0,he0,hel0,hS0,hw0⟩:=hh.wr (j:=0) hi' gz;have hel0:e0.length=2:=hel0;obtain⟨hh,hf0,hn0⟩:=hw0 (.int .i64 ki) (.int _ _);have hfr:=λa (ha:¬S a)=>(hf0 a ha).trans (hfr a ha);have hnx:=hn0.trans hnx;repeat' first|(apply yA;exact rfl)|apply yB|apply yC|((first|apply yG|apply yH|apply yI);exact rfl;(first|exact rfl|exact je rfl rfl hni hi' hg0 he0 hel0|exact zk rfl rfl hg0 he0 (by omega)))|(apply yN;exact rfl)
 obtain⟨k0,hk0⟩:∃z,ki+1=z:=⟨_,rfl⟩;rw[show IntKind.i64.wrap (ki+1)=k0 by rw[jg O O];exact hk0];obtain⟨es1,e1,T1,hg1,he1,hel1,hTS1,hj1,hch1,hback1⟩:=hh.ch (j:=1) (y:=.fz (ys[i].expr.map zh)) hi' gz rfl;repeat' first|(apply yA;exact rfl)|apply yB|apply yC|((first|apply yG|apply yH|apply yI);exact rfl;(first|exact rfl|exact je rfl rfl hni hi' hg1 he1 hel1|exact wm rfl hg1 he1 (show 0+1<e1.length by omega)))|(apply yN;exact rfl)
 refine Go.call _ rfl rfl rfl ((zbu ys[i].expr k0 hb.1 hb.2 O O).at_ _ T1 _ hch1) ?_;rintro r V1 ⟨rfl,hn1,hf1,hhc1⟩;have hh:=hback1 V1 _ hf1 hhc1;have hfr:=λa (ha:¬S a)=>(hf1 a (λh=>ha (hTS1 a h))).trans (hfr a ha);have hnx:=hn1.trans hnx;obtain⟨k1,hk1⟩:∃z,k0+cntL jx ys[i].expr=z:=⟨_,rfl⟩;rw[hk1];clear hg1 he1 hel1 hch1 hback1 hf1 hn1 hhc1;repeat' first|(apply yA;exact rfl)|apply yB|apply yC|((first|apply yG|apply yH|apply yI);exact rfl;(first|exact rfl))|(apply yN;exact rfl)
 have hkend:k1=ki+wa1 ys[i]:=by simp only[wa1];omega
 refine hnext _ _ rfl (congrArg (λz=>some (AV.c (Ce.int .i64 z))) hkend) rfl hnx hfr ?_;rw[hset];subst hk0 hk1;exact hh
structure zn8(P:Program)(f:Nat)(ys:List Ce)(k k':Int):Prop where
 at_:∀G S xs,HasL G S ys xs->Ok P f [.agg xs,.c (.int .i64 k)] G (λr G'=>r=.c (.int .i64 k')/\G'.next=G.next/\(∀a,¬S a->G'.get a=G.get a))
theorem wjo{S:Nat->Prop}{a:Stmt}(h:HasL V S (zi a) xs):∃x1 x2 x3 S1 S2 S3,xs=[.int .i64 a.kind,.str a.table,x1,x2,x3,.int .i64 a.policy]/\((∀i,S1 i->S i)/\(∀i,S2 i->S i)/\(∀i,S3 i->S i))/\((∀i,S2 i->¬S1 i)/\(∀i,S3 i->¬S1 i)/\(∀i,S3 i->¬S2 i))/\
 Has V S1 (.fz (a.rows.map jc)) x1/\Has V S2 (.fz (a.wher.map zh)) x2/\Has V S3 (.fz (a.sets.map wi)) x3:=by
 obtain⟨U,h1,h2,h3,h4⟩:=h
 match xs,h1 with
 |[y0,y1,y2,y3,y4,y5],_=>
  have k0:=h4 0 (by simp[zi]) gx;have k1:=h4 1 (by simp[zi]) gx;have k2:=h4 2 (by simp[zi]) gx;have k3:=h4 3 (by simp[zi]) gx;have k4:=h4 4 (by simp[zi]) gx;have k5:=h4 5 (by simp[zi]) gx;simp only[zi,List.getElem_cons_zero,List.getElem_cons_succ]at k0 k1 k2 k3 k4 k5
  cases k0 with
  |c h0=>
  cases k1 with
  |c h1=>
  cases k5 with
  |c h5=>
  exact⟨y2,y3,y4,U 2,U 3,U 4,rfl,⟨h2 2,h2 3,h2 4⟩,⟨λi a b=>absurd (h3 2 3 i b a) gb,λi a b=>absurd (h3 2 4 i b a) gb,λi a b=>absurd (h3 3 4 i b a) gb⟩,k2,k3,k4⟩
def wcn(a:Stmt):Int:=0+cntL jn a.rows+cntL jx a.wher+cntL wa1 a.sets
theorem zhb(a:Stmt):0<=wcn a:=by
 have:=ze (c:=jn) jaa a.rows;have:=ze (c:=jx) j5 a.wher;have:=ze (c:=wa1) wb7 a.sets;simp only[wcn];omega
theorem jle(a:Stmt)(l:Int)(h:0<=l)(hs:0<=zd9 a l):wcn a<=8*(l-zd9 a l)+8:=by
 have:=zan (fs:=[(λl=>l-a.table.length),(szL zcc a.rows),(szL zTok a.wher),(szL zdu a.sets)]) (.cons (c:=0) (zet a.table) (.cons (c:=cntL jn a.rows) (λq h hs=>zaf jbp whj a.rows q h hs) (.cons (c:=cntL jx a.wher) (λq h hs=>zaf jag zc4 a.wher q h hs) (.cons (c:=cntL wa1 a.sets) (λq h hs=>zaf wd8 zle a.sets q h hs) .nil)))) l h hs;simp only[wcn];simp only[zd9]at hs⊢;omega
theorem wki(a:Stmt)(k:Int)(hb:zes 34359738368 a)(hk0:0<=k)(hk:k+wcn a<=34359738368):zn8 Tryz.prog 28 (zi a) k (k+wcn a):=by
 constructor;intro G S xs hh;obtain⟨x1,x2,x3,S1,S2,S3,rfl,⟨s1,s2,s3⟩,⟨d21,d31,d32⟩,g1,g2,g3⟩:=wjo hh;have n1:=ze (c:=jn) jaa a.rows;have n2:=ze (c:=jx) j5 a.wher;have n3:=ze (c:=wa1) wb7 a.sets;simp only[wcn]at hk;refine .old zb1 λhS hA=>.of_go mixed zb1 gz ?_;clear hS hA;repeat' first|refine X ?_|exact yaF|refine Y ?_ ?_<;>intro _
 refine Go.call _ rfl rfl rfl ((je1 a.rows k hb.2.1.1 hb.2.1.2 hk0 O).at_ G S1 _ g1) ?_;rintro r V1 ⟨rfl,hnx1,hf1,-⟩;have g2:=g2.frame λi hi=>hf1 i (d21 i hi);have g3:=g3.frame λi hi=>hf1 i (d31 i hi);repeat' first|refine X ?_|exact yaF|refine Y ?_ ?_<;>intro _
 refine Go.call _ rfl rfl rfl ((zbu a.wher (k+cntL jn a.rows) hb.2.2.1.1 hb.2.2.1.2 O O).at_ V1 S2 _ g2) ?_;rintro r V2 ⟨rfl,hnx2,hf2,-⟩;have g3:=g3.frame λi hi=>hf2 i (d32 i hi);repeat' first|refine X ?_|exact yaF|refine Y ?_ ?_<;>intro _
 refine Go.call _ rfl rfl rfl ((jjo a.sets (k+cntL jn a.rows+cntL jx a.wher) hb.2.2.2.1 hb.2.2.2.2 O O).at_ V2 S3 _ g3) ?_;rintro r V3 ⟨rfl,hnx3,hf3,-⟩;repeat' first|refine X ?_|exact yaF|refine Y ?_ ?_<;>intro _
 refine .ret rfl ⟨?_,hnx3.trans (hnx2.trans hnx1),λi hi=>(hf3 i λh=>hi (s3 i h)).trans ((hf2 i λh=>hi (s2 i h)).trans (hf1 i λh=>hi (s1 i h)))⟩;simp only[wcn]
 congr 2
 omega
end Go.Proofs.YtedaadaaibofaaaGreat.Am
namespace Go.Proofs.YtedaadaaibofaaaGreat.Am
open Go.RowKit Go.ChangeShapes Go.WideShapes

section
variable {H:Type}{enc:TypeId×Value->H}{W:World}
theorem jnz:jp enc Tryz.prog W 213 encV LenV:= 
 (jp.struct (s:=3) Tryz.underlying213 (.cons (s:=1) rfl (.int Tryz.underlying2) rfl (λ_=>rfl) (.cons (s:=1) rfl (.int Tryz.underlying2) rfl (λ_=>rfl) (.cons (s:=1) rfl (.str Tryz.underlying9) rfl (λ_=>rfl) .nil))) (by kernel_rfl) (λ_=>rfl)).iso (λp=>Val.mk p.1 p.2.1 p.2.2.1) (λ_=>rfl) λp h=>yaf h.2.2.1 gb
theorem jn8:jp enc Tryz.prog W 209 (λl:List Val=>[.fz (l.map encV)]) (λl=>l.length<=140737488351232/\∀v∈l,LenV v):=
 (jp.slice (s:=3) Tryz.underlying209 jnz (by kernel_rfl) gb (λ_=>rfl)).iso id (λ_=>rfl) λl h=>⟨yaf (yau _ (of_decide_eq_true (by kernel_rfl))) h.1,h.2⟩
end
end Go.Proofs.YtedaadaaibofaaaGreat.Am
namespace Go.Proofs.YtedaadaaibofaaaGreat.Am
open Go.RowKit Go.ChangeShapes Go.WideShapes
section
variable {H:Type}{enc:TypeId×Value->H}{W:World}
theorem wmg:jp enc Tryz.prog W 89 (λl:List Int=>[.fz (l.map encI)]) (λl=>l.length<=140737488351232):=
 (jp.slice (s:=1) Tryz.underlying89 (.int Tryz.underlying2) (by kernel_rfl) gb (λ_=>rfl)).iso id (λ_=>rfl) λl h=>yaf (yau _ (of_decide_eq_true (by kernel_rfl))) h.1
theorem wnz:jp enc Tryz.prog W 215 zh (bTok 1125899906842624):=
 (jp.struct (s:=5) Tryz.underlying215 (.cons (s:=1) rfl (.int Tryz.underlying2) rfl (λ_=>rfl) (.cons (s:=1) rfl (.int Tryz.underlying2) rfl (λ_=>rfl) (.cons (s:=3) rfl jnz rfl (λ_=>rfl) .nil))) (by kernel_rfl) (λ_=>rfl)).iso (λp=>Tok.mk p.1 p.2.1 p.2.2.1) (λ_=>rfl) λp h=>h.2.2.1
theorem jee:jp enc Tryz.prog W 26 (λl:List Tok=>[.fz (l.map zh)]) (λl=>l.length<=140737488351232/\∀v∈l,bTok 1125899906842624 v):=
 (jp.slice (s:=5) Tryz.underlying26 wnz (by kernel_rfl) gb (λ_=>rfl)).iso id (λ_=>rfl) λl h=>⟨yaf (yau _ (of_decide_eq_true (by kernel_rfl))) h.1,h.2⟩
theorem zn0:jp enc Tryz.prog W 313 zx (bChk 1125899906842624):=
 (jp.struct (s:=1) Tryz.underlying313 (.cons (s:=1) rfl jee rfl (λ_=>rfl) .nil) (by kernel_rfl) (λ_=>rfl)).iso (λp=>Chk.mk p.1) (λ_=>rfl) λp h=>⟨yaf h.1.1 gb,h.1.2⟩
theorem wna:jp enc Tryz.prog W 107 (λl:List Chk=>[.fz (l.map zx)]) (λl=>l.length<=140737488351232/\∀v∈l,bChk 1125899906842624 v):=
 (jp.slice (s:=1) Tryz.underlying107 zn0 (by kernel_rfl) gb (λ_=>rfl)).iso id (λ_=>rfl) λl h=>⟨yaf (yau _ (of_decide_eq_true (by kernel_rfl))) h.1,h.2⟩
theorem znb:jp enc Tryz.prog W 310 jo (wfj 1125899906842624):=
 (jp.struct (s:=1) Tryz.underlying310 (.cons (s:=1) rfl wmg rfl (λ_=>rfl) .nil) (by kernel_rfl) (λ_=>rfl)).iso (λp=>Uniq.mk p.1) (λ_=>rfl) λp h=>yaf h.1 gb
theorem zmh:jp enc Tryz.prog W 106 (λl:List Uniq=>[.fz (l.map jo)]) (λl=>l.length<=140737488351232/\∀v∈l,wfj 1125899906842624 v):=
 (jp.slice (s:=1) Tryz.underlying106 znb (by kernel_rfl) gb (λ_=>rfl)).iso id (λ_=>rfl) λl h=>⟨yaf (yau _ (of_decide_eq_true (by kernel_rfl))) h.1,h.2⟩
theorem wn8:jp enc Tryz.prog W 315 j3 (bFk 1125899906842624):=
 (jp.struct (s:=5) Tryz.underlying315 (.cons (s:=1) rfl wmg rfl (λ_=>rfl) (.cons (s:=1) rfl (.str Tryz.underlying9) rfl (λ_=>rfl) (.cons (s:=1) rfl (.int Tryz.underlying2) rfl (λ_=>rfl) (.cons (s:=1) rfl (.int Tryz.underlying2) rfl (λ_=>rfl) (.cons (s:=1) rfl (.bool Tryz.underlying4) rfl (λ_=>rfl) .nil))))) (by kernel_rfl) (λ_=>rfl)).iso (λp=>Fk.mk p.1 p.2.1 p.2.2.1 p.2.2.2.1 p.2.2.2.2.1) (λ_=>rfl) λp h=>⟨yaf h.1 gb,yaf h.2.1 gb⟩
theorem jn0:jp enc Tryz.prog W 108 (λl:List Fk=>[.fz (l.map j3)]) (λl=>l.length<=140737488351232/\∀v∈l,bFk 1125899906842624 v):=
 (jp.slice (s:=5) Tryz.underlying108 wn8 (by kernel_rfl) gb (λ_=>rfl)).iso id (λ_=>rfl) λl h=>⟨yaf (yau _ (of_decide_eq_true (by kernel_rfl))) h.1,h.2⟩
theorem wn0:jp enc Tryz.prog W 308 ji (bCol 1125899906842624):=
 (jp.struct (s:=6) Tryz.underlying308 (.cons (s:=1) rfl (.str Tryz.underlying9) rfl (λ_=>rfl) (.cons (s:=1) rfl (.int Tryz.underlying2) rfl (λ_=>rfl) (.cons (s:=1) rfl (.bool Tryz.underlying4) rfl (λ_=>rfl) (.cons (s:=3) rfl jnz rfl (λ_=>rfl) .nil)))) (by kernel_rfl) (λ_=>rfl)).iso (λp=>Col.mk p.1 p.2.1 p.2.2.1 p.2.2.2.1) (λ_=>rfl) λp h=>⟨yaf h.1 gb,h.2.2.2.1⟩
theorem jnb:jp enc Tryz.prog W 105 (λl:List Col=>[.fz (l.map ji)]) (λl=>l.length<=140737488351232/\∀v∈l,bCol 1125899906842624 v):=
 (jp.slice (s:=6) Tryz.underlying105 wn0 (by kernel_rfl) gb (λ_=>rfl)).iso id (λ_=>rfl) λl h=>⟨yaf (yau _ (of_decide_eq_true (by kernel_rfl))) h.1,h.2⟩
theorem jmh:jp enc Tryz.prog W 110 ja (zah 1125899906842624):=
 (jp.struct (s:=6) Tryz.underlying110 (.cons (s:=1) rfl (.str Tryz.underlying9) rfl (λ_=>rfl) (.cons (s:=1) rfl jnb rfl (λ_=>rfl) (.cons (s:=1) rfl wmg rfl (λ_=>rfl) (.cons (s:=1) rfl zmh rfl (λ_=>rfl) (.cons (s:=1) rfl wna rfl (λ_=>rfl) (.cons (s:=1) rfl jn0 rfl (λ_=>rfl) .nil)))))) (by kernel_rfl) (λ_=>rfl)).iso (λp=>zd.mk p.1 p.2.1 p.2.2.1 p.2.2.2.1 p.2.2.2.2.1 p.2.2.2.2.2.1) (λ_=>rfl) λp h=>⟨yaf h.1 gb,⟨yaf h.2.1.1 gb,h.2.1.2⟩,yaf h.2.2.1 gb,⟨yaf h.2.2.2.1.1 gb,h.2.2.2.1.2⟩,⟨yaf h.2.2.2.2.1.1 gb,h.2.2.2.2.1.2⟩,⟨yaf h.2.2.2.2.2.1.1 gb,h.2.2.2.2.2.1.2⟩⟩
theorem wle:jp enc Tryz.prog W 22 (λl:List zd=>[.fz (l.map ja)]) (λl=>l.length<=140737488351232/\∀v∈l,zah 1125899906842624 v):=
 (jp.slice (s:=6) Tryz.underlying22 jmh (by kernel_rfl) gb (λ_=>rfl)).iso id (λ_=>rfl) λl h=>⟨yaf (yau _ (of_decide_eq_true (by kernel_rfl))) h.1,h.2⟩
theorem wnb:jp enc Tryz.prog W 317 zn (zeq 1125899906842624):=
 (jp.struct (s:=1) Tryz.underlying317 (.cons (s:=1) rfl jee rfl (λ_=>rfl) .nil) (by kernel_rfl) (λ_=>rfl)).iso (λp=>Term.mk p.1) (λ_=>rfl) λp h=>⟨yaf h.1.1 gb,h.1.2⟩
theorem wmh:jp enc Tryz.prog W 112 (λl:List Term=>[.fz (l.map zn)]) (λl=>l.length<=140737488351232/\∀v∈l,zeq 1125899906842624 v):=
 (jp.slice (s:=1) Tryz.underlying112 wnb (by kernel_rfl) gb (λ_=>rfl)).iso id (λ_=>rfl) λl h=>⟨yaf (yau _ (of_decide_eq_true (by kernel_rfl))) h.1,h.2⟩
theorem zkj:jp enc Tryz.prog W 114 wc (w9 1125899906842624):=
 (jp.struct (s:=5) Tryz.underlying114 (.cons (s:=1) rfl (.str Tryz.underlying9) rfl (λ_=>rfl) (.cons (s:=1) rfl (.int Tryz.underlying2) rfl (λ_=>rfl) (.cons (s:=1) rfl jee rfl (λ_=>rfl) (.cons (s:=1) rfl (.str Tryz.underlying9) rfl (λ_=>rfl) (.cons (s:=1) rfl wmh rfl (λ_=>rfl) .nil))))) (by kernel_rfl) (λ_=>rfl)).iso (λp=>we.mk p.1 p.2.1 p.2.2.1 p.2.2.2.1 p.2.2.2.2.1) (λ_=>rfl) λp h=>⟨yaf h.1 gb,⟨yaf h.2.2.1.1 gb,h.2.2.1.2⟩,yaf h.2.2.2.1 gb,⟨yaf h.2.2.2.2.1.1 gb,h.2.2.2.2.1.2⟩⟩
theorem zjp:jp enc Tryz.prog W 23 (λl:List we=>[.fz (l.map wc)]) (λl=>l.length<=140737488351232/\∀v∈l,w9 1125899906842624 v):=
 (jp.slice (s:=5) Tryz.underlying23 zkj (by kernel_rfl) gb (λ_=>rfl)).iso id (λ_=>rfl) λl h=>⟨yaf (yau _ (of_decide_eq_true (by kernel_rfl))) h.1,h.2⟩
theorem znc:jp enc Tryz.prog W 218 wi (wfk 1125899906842624):=
 (jp.struct (s:=2) Tryz.underlying218 (.cons (s:=1) rfl (.int Tryz.underlying2) rfl (λ_=>rfl) (.cons (s:=1) rfl jee rfl (λ_=>rfl) .nil)) (by kernel_rfl) (λ_=>rfl)).iso (λp=>SetS.mk p.1 p.2.1) (λ_=>rfl) λp h=>⟨yaf h.2.1.1 gb,h.2.1.2⟩
theorem zmi:jp enc Tryz.prog W 27 (λl:List SetS=>[.fz (l.map wi)]) (λl=>l.length<=140737488351232/\∀v∈l,wfk 1125899906842624 v):=
 (jp.slice (s:=2) Tryz.underlying27 znc (by kernel_rfl) gb (λ_=>rfl)).iso id (λ_=>rfl) λl h=>⟨yaf (yau _ (of_decide_eq_true (by kernel_rfl))) h.1,h.2⟩
theorem jnc:jp enc Tryz.prog W 211 jc (wer 1125899906842624):=
 (jp.struct (s:=2) Tryz.underlying211 (.cons (s:=1) rfl (.int Tryz.underlying2) rfl (λ_=>rfl) (.cons (s:=1) rfl jn8 rfl (λ_=>rfl) .nil)) (by kernel_rfl) (λ_=>rfl)).iso (λp=>RowD.mk p.1 p.2.1) (λ_=>rfl) λp h=>⟨yaf h.2.1.1 gb,h.2.1.2⟩
theorem jjp:jp enc Tryz.prog W 25 (λl:List RowD=>[.fz (l.map jc)]) (λl=>l.length<=140737488351232/\∀v∈l,wer 1125899906842624 v):=
 (jp.slice (s:=2) Tryz.underlying25 jnc (by kernel_rfl) gb (λ_=>rfl)).iso id (λ_=>rfl) λl h=>⟨yaf (yau _ (of_decide_eq_true (by kernel_rfl))) h.1,h.2⟩
theorem wnc:jp enc Tryz.prog W 29 zi (zes 1125899906842624):=
 (jp.struct (s:=6) Tryz.underlying29 (.cons (s:=1) rfl (.int Tryz.underlying2) rfl (λ_=>rfl) (.cons (s:=1) rfl (.str Tryz.underlying9) rfl (λ_=>rfl) (.cons (s:=1) rfl jjp rfl (λ_=>rfl) (.cons (s:=1) rfl jee rfl (λ_=>rfl) (.cons (s:=1) rfl zmi rfl (λ_=>rfl) (.cons (s:=1) rfl (.int Tryz.underlying2) rfl (λ_=>rfl) .nil)))))) (by kernel_rfl) (λ_=>rfl)).iso (λp=>Stmt.mk p.1 p.2.1 p.2.2.1 p.2.2.2.1 p.2.2.2.2.1 p.2.2.2.2.2.1) (λ_=>rfl) λp h=>⟨yaf h.2.1 gb,⟨yaf h.2.2.1.1 gb,h.2.2.1.2⟩,⟨yaf h.2.2.2.1.1 gb,h.2.2.2.1.2⟩,⟨yaf h.2.2.2.2.1.1 gb,h.2.2.2.2.1.2⟩⟩
end
end Go.Proofs.YtedaadaaibofaaaGreat.Am
namespace Go.Proofs.YtedaadaaibofaaaGreat.Am
open Go.RowKit Go.ChangeShapes Go.WideShapes
section
variable {H:Type}{enc:TypeId×Value->H}{W:World}
theorem znd:jp enc Tryz.prog W 117 jb (jbz 1125899906842624):=
 (jp.struct (s:=1) Tryz.underlying117 (.cons (s:=1) rfl jjp rfl (λ_=>rfl) .nil) (by kernel_rfl) (λ_=>rfl)).iso (λp=>Data.mk p.1) (λ_=>rfl) λp h=>⟨yaf h.1.1 gb,h.1.2⟩
theorem jmi:jp enc Tryz.prog W 24 (λl:List Data=>[.fz (l.map jb)]) (λl=>l.length<=140737488351232/\∀v∈l,jbz 1125899906842624 v):=
 (jp.slice (s:=1) Tryz.underlying24 znd (by kernel_rfl) gb (λ_=>rfl)).iso id (λ_=>rfl) λl h=>⟨yaf (yau _ (of_decide_eq_true (by kernel_rfl))) h.1,h.2⟩
end
end Go.Proofs.YtedaadaaibofaaaGreat.Am
