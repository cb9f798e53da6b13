/- Joined texts: A4, A10, A11, A5, A12, A6, A13, A7, A14, A15, A16, A8, A18, A17, A19, A20, A21, A23, A24, A25, A26, S10, A27, C2, A28, S8, D3, D4, D5. -/
import Derived.Test.YtedaadaaibofaaaGreatU1
import Derived.Test.YtedaadaaibofaaaGreatU2
import Derived.Test.YtedaadaaibofaaaGreatU3
import Derived.Test.YtedaadaaibofaaaGreatU4
set_option maxHeartbeats 1000000
set_option linter.unusedVariables false
set_option linter.unusedSimpArgs false
namespace Go.Proofs.YtedaadaaibofaaaGreat.Am
variable {n:Nat}
theorem zhl(l:List zd):OldL n (l.map ja):=λe he c hc=>by
 obtain⟨a,_,rfl⟩:=List.mem_map.1 he;simp only[ja,List.mem_cons,List.not_mem_nil,or_false]at hc;rcases hc with rfl|rfl|rfl|rfl|rfl|rfl
 ·exact .str _
 ·exact zae (wnr _)
 ·exact zae (wj5 _)
 ·exact zae (zm1 _)
 ·exact zae (zns _)
 ·exact zae (jn6 _)
theorem jdb{α:Type}(p:α->Bool):∀(l:List α) (i:Int),(idxA p l i=-1/\l.find? p=none)\/∃k,∃h:k<l.length,idxA p l i=i+(k:Int)/\l.find? p=some l[k]
 |[],i=>.inl ⟨rfl,rfl⟩
 |a::l,i=>by
  rw[idxA,List.find?_cons]
  cases h:p a
  ·rcases jdb p l (i+1)with⟨h1,h2⟩|⟨k,hk,h1,h2⟩
   ·exact .inl ⟨h1,h2⟩
   ·exact .inr ⟨k+1,by simpa using hk,by simp only[Bool.false_eq_true,if_false];rw[h1];omega,h2⟩
  ·exact .inr ⟨0,gx,gx,rfl⟩
theorem zl(l:List RowD)(id:Int):(idxA (λr:RowD=>r.id==id) l 0=-1/\wav l id=none)\/∃k,∃h:k<l.length,idxA (λr:RowD=>r.id==id) l 0=(k:Int)/\wav l id=some l[k]:=by
 rcases jdb (λr:RowD=>r.id==id) l 0 with h|⟨k,hk,h1,h2⟩
 ·exact .inl h
 ·exact .inr ⟨k,hk,by rw[h1];omega,h2⟩
theorem ze3{t:zd}:∀{l:List Val} {i k:Nat},(h:i<l.length)->jl t k (l.take (i+1))=jl t k (l.take i)++[if l[i].k==0&&jy t (k+i)then wgp t (k+i)else l[i]]
 |[],i,k,h=>by simp at h
 |v::l,0,k,h=>by simp[jl]
 |v::l,i+1,k,h=>by
  rw[List.take_succ_cons,jl,ze3 (by simpa using h),List.take_succ_cons,jl];simp only[List.cons_append,List.getElem_cons_succ];rw[show((k+1:Nat):Int)+(i:Int)=(k:Int)+((i+1:Nat):Int) by omega,show k+1+i=k+(i+1) by omega]
theorem wig{t:zd}:∀y∈(AV.c (.fp (ja t))).all,Old n y:=λy hy=>by
 simp only[AV.all,List.mem_singleton]at hy;subst hy;exact .fp _ λj hj=>zhl [t] _ (List.mem_singleton.2 rfl) _ (yaa hj)
theorem zgr{t:zd}:∀{l:List Val} {i:Nat},(jl t i l).length=l.length
 |[],_=>rfl
 |v::l,i=>by rw[jl,List.length_cons,List.length_cons,zgr]
theorem jgr(t:zd)(vals:List Val)(hl:vals.length=t.cols.length)(hc:t.cols.length<=8):Pure Tryz.prog 320 [.agg (ja t),.c (.fz (vals.map encV))] (.c (.fz ((jl t 0 vals).map encV))):=by
 refine yap [2,38] jf9 λG hS hA=>?_;clear hA;repeat' first|refine X ?_|exact yaF|refine Y ?_ ?_<;>intro _
 refine Go.keep [1,2,5,6] (Go.loops (I:=λm fr V=>∃(i:Nat) (k:Int) (v:Nat) (junk:List (List Ce)),m=vals.length-i/\i<=vals.length/\k=i/\Jk 3 junk/\
  fr=[(1,.c (.fz (vals.map encV))),(2,.c (.fp (ja t))),(5,.c (vec (G.next+0) v ((jl t 0 (vals.take i)).map encV) junk)),(6,.c (.int .i64 k))]/\V=E G [(v,(jl t 0 (vals.take i)).map encV++junk)]) ?_ _ _ _ ⟨0,_,0,[],rfl,yad _,rfl,Jk.nil,rfl,rfl⟩)
 rintro m fr V ⟨i,k,v,junk,rfl,hi,hk,hj,rfl,rfl⟩ hrec;have hlen:(jl t 0 (vals.take i)).length<=8:=by rw[zgr,yasq];omega
 by_cases hlt:i<vals.length
 ·have hlc:i<t.cols.length:=O;have hnn:jy t ((0:Nat)+i)=t.cols[i].notNull:=by rw[jy,show((0:Nat):Int)+(i:Int)=(i:Int) by omega,ybh,yag hlc]
  have hdf:wgp t (0+i)=t.cols[i].dflt:=by rw[wgp,ybo,yag hlc]
  have hst:=ze3 (t:=t) (k:=0) hlt;rw[hnn,hdf]at hst;generalize jl t 0 (vals.take i)=ys at hst hlen⊢;have hbd:((ys.map encV).length+1)*32<=140737488355328:=by rw[yae];omega
  by_cases h0:vals[i].k=0
  ·cases hb:t.cols[i].notNull
   ·rw[hb,ybk,if_neg yah]at hst;repeat' first|refine yaN ?_|((first|apply yG|apply yH|apply yI);exact rfl;(first|exact yax encV hk hlt|exact yax ji hk hlc))|(apply Go.app1;exact rfl;exact rfl;exact rfl;exact rfl;exact rfl;exact lens;exact hj;exact rfl;exact hbd;intro v' junk' hj')|exact yaF|refine Y ?_ ?_<;>intro _
    all_goals first
     |(refine Go.freezeN (l:=[(v',ys.map encV++[encV vals[i]]++junk')]) (m:=[(0,[encV vals[i]])]) (fr':=[(1,.c (.fz (vals.map encV))),(2,.c (.fp (ja t))),(5,.c (vec (G.next+0) v' (ys.map encV++[encV vals[i]]) junk')),(6,.c (.int .i64 (IntKind.i64.wrap (k+1))))]) hS (λb hb e he x hx=>?_) (yai _) (.frz rfl (.refl w7) (.frz rfl (.refl wig) (.frz rfl (.refl (je0 (yao _))) (.frz rfl (.refl ja1) .nil)))) ?_
       ·rw[List.mem_singleton.1 hb]at he;rcases List.mem_append.1 he with he|he
        ·rw[show ys.map encV++[encV vals[i]]=(ys++[vals[i]]).map encV by simp]at he;exact(jfk e he x hx).old _
        ·exact((hj' e he).2 x hx).old _
       ·exact hrec _ _ _ O ⟨i+1,_,v',junk',rfl,hlt,wb hk O,hj',by rw[hst,yaqq]<;>rfl,by rw[hst,yaqq]<;>rfl⟩)
     |(exfalso;simp_all;done)
   ·rw[hb,h0,if_pos gb]at hst;repeat' first|refine yaN ?_|((first|apply yG|apply yH|apply yI);exact rfl;(first|exact yax encV hk hlt|exact yax ji hk hlc))|(apply Go.app1;exact rfl;exact rfl;exact rfl;exact rfl;exact rfl;exact lens;exact hj;exact rfl;exact hbd;intro v' junk' hj')|exact yaF|refine Y ?_ ?_<;>intro _
    all_goals first
     |(refine Go.freezeN (l:=[(v',ys.map encV++[encV t.cols[i].dflt]++junk')]) (m:=[(0,[encV t.cols[i].dflt])]) (fr':=[(1,.c (.fz (vals.map encV))),(2,.c (.fp (ja t))),(5,.c (vec (G.next+0) v' (ys.map encV++[encV t.cols[i].dflt]) junk')),(6,.c (.int .i64 (IntKind.i64.wrap (k+1))))]) hS (λb hb e he x hx=>?_) (yai _) (.frz rfl (.refl w7) (.frz rfl (.refl wig) (.frz rfl (.refl (je0 (yao _))) (.frz rfl (.refl ja1) .nil)))) ?_
       ·rw[List.mem_singleton.1 hb]at he;rcases List.mem_append.1 he with he|he
        ·rw[show ys.map encV++[encV t.cols[i].dflt]=(ys++[t.cols[i].dflt]).map encV by simp]at he;exact(jfk e he x hx).old _
        ·exact((hj' e he).2 x hx).old _
       ·exact hrec _ _ _ O ⟨i+1,_,v',junk',rfl,hlt,wb hk O,hj',by rw[hst,yaqq]<;>rfl,by rw[hst,yaqq]<;>rfl⟩)
     |(exfalso;simp_all;done)
  ·rw[beq_eq_false_iff_ne.2 h0,ybi,if_neg yah]at hst;repeat' first|refine yaN ?_|((first|apply yG|apply yH|apply yI);exact rfl;(first|exact yax encV hk hlt|exact yax ji hk hlc))|(apply Go.app1;exact rfl;exact rfl;exact rfl;exact rfl;exact rfl;exact lens;exact hj;exact rfl;exact hbd;intro v' junk' hj')|exact yaF|refine Y ?_ ?_<;>intro _
   all_goals first
    |(refine Go.freezeN (l:=[(v',ys.map encV++[encV vals[i]]++junk')]) (m:=[(0,[encV vals[i]])]) (fr':=[(1,.c (.fz (vals.map encV))),(2,.c (.fp (ja t))),(5,.c (vec (G.next+0) v' (ys.map encV++[encV vals[i]]) junk')),(6,.c (.int .i64 (IntKind.i64.wrap (k+1))))]) hS (λb hb e he x hx=>?_) (yai _) (.frz rfl (.refl w7) (.frz rfl (.refl wig) (.frz rfl (.refl (je0 (yao _))) (.frz rfl (.refl ja1) .nil)))) ?_
      ·rw[List.mem_singleton.1 hb]at he;rcases List.mem_append.1 he with he|he
       ·rw[show ys.map encV++[encV vals[i]]=(ys++[vals[i]]).map encV by simp]at he;exact(jfk e he x hx).old _
       ·exact((hj' e he).2 x hx).old _
      ·exact hrec _ _ _ O ⟨i+1,_,v',junk',rfl,hlt,wb hk O,hj',by rw[hst,yaqq]<;>rfl,by rw[hst,yaqq]<;>rfl⟩)
    |(exfalso;simp_all;done)
 ·rw[yan O]at hlen⊢;generalize jl t 0 vals=ys at hlen⊢;repeat' first|refine X ?_|exact yaF|refine Y ?_ ?_<;>intro _
  exact .ret rfl ⟨_,rfl,zb6 (k:=0) rfl (ybl _ _)⟩
def jct(l:List RowD):Int:=match l.getLast? with|some r=>r.id+1|none=>1
theorem zfn{l:List RowD}{k:Nat}(h:k<l.length)(hk:k+1=l.length):jct l=l[k].id+1:=by
 rw[jct,List.getLast?_eq_getElem?,show l.length-1=k by omega,yag h]
theorem jhl(d:Data)(hn:d.rows.length<=60)(hid:∀r∈d.rows,1<=r.id/\r.id<=1000000000):Pure Tryz.prog 164 [.agg (jb d)] (.c (.int .i64 (jct d.rows))):=by
 refine yaq [1] wh0 λG=>?_;by_cases h0:0<d.rows.length
 ·have hlt:d.rows.length-1<d.rows.length:=O;have h1:IntKind.i64.wrap ((d.rows.length:Int)-1)=((d.rows.length-1:Nat):Int):=by rw[jg O O];omega
  have hne:¬(d.rows.length:Int)=0:=O;have hi:=hid _ (yaa hlt);rw[zfn hlt O];repeat' first|refine X ?_|((first|apply yG|apply yH|apply yI);exact rfl;(first|exact yax jc h1 hlt))|exact yaF|refine Y ?_ ?_<;>intro _
  exact .ret rfl (.int (jg O O))
 ·have he:(d.rows.length:Int)=0:=O;have hz:d.rows=[]:=yal O;have h1:jct d.rows=1:=by rw[hz];rfl
  rw[h1];repeat' first|refine X ?_|exact yaF|refine Y ?_ ?_<;>intro _
  exact .ret rfl (.int rfl)
def zfl(x:RowD):Bool->List RowD->List RowD
 |b,[]=>if b then[]else[x]
 |b,r::l=>(if(!b&&decide (x.id<=r.id))=true then[x]else[])++(if r.id=x.id then[]else[r])++zfl x (b||decide (x.id<=r.id)) l
theorem whl{x:RowD}:∀{l:List RowD},(∀r∈l,x.id<r.id)->zfl x true l=l
 |[],_=>rfl
 |r::l,h=>by
  have h1:=h r gx;have h2:=whl (x:=x) (l:=l) λq hq=>h q (by simp[hq]);rw[zfl,Bool.true_or,h2];simp[show¬r.id=x.id by omega]
theorem zhm{x:RowD}:∀{l:List RowD},(∀r∈l,x.id<r.id)->setRow l x=l
 |[],_=>rfl
 |r::l,h=>by
  have h1:=h r gx;have h2:=zhm (x:=x) (l:=l) λq hq=>h q (by simp[hq]);rw[setRow]at h2⊢;rw[List.map_cons,h2];simp[show¬r.id=x.id by omega]
theorem wgr{x:RowD}:∀{l:List RowD},Rise l->(∃r∈l,r.id=x.id)->zfl x false l=setRow l x
 |[],_,h=>by obtain⟨r,hr,_⟩:=h;cases hr
 |r::l,hl,h=>by
  obtain⟨h1,h2⟩:=List.pairwise_cons.1 hl;rw[zfl,setRow,List.map_cons];by_cases he:r.id=x.id
  ·have h3:∀q∈l,x.id<q.id:=λq hq=>by have:=h1 q hq;omega
   have h4:=zhm h3;rw[setRow]at h4;rw[h4,show(false||decide (x.id<=r.id))=true by simp[he],whl h3];simp[he]
  ·obtain⟨q,hq,hqi⟩:=h;rcases List.mem_cons.1 hq with rfl|hq
   ·exact absurd hqi he
   ·have h3:¬x.id<=r.id:=by have:=h1 q hq;omega
    have h4:=wgr h2 ⟨q,hq,hqi⟩;rw[setRow]at h4;rw[show(false||decide (x.id<=r.id))=false by simp[h3],h4];simp[he,h3]
set_option maxHeartbeats 1000000 in
theorem zgs(d:Data)(x:RowD)(hd:d.rows.length<=60):Pure Tryz.prog 324 [.agg (jb d),.agg (jc x)] (.agg (jb ⟨zfl x false d.rows⟩)):=by
 refine yaq [2,3,31,48,54] wi5 λG=>?_;repeat' first|refine X ?_|exact yaF|refine Y ?_ ?_<;>intro _
 refine Go.keep [2,3,4,5,6,7] (Go.loops (I:=λm fr V=>∃(i:Nat) (k:Int) (v:Nat) (junk:List (List Ce)) (acc:List RowD) (b:Bool),m=d.rows.length-i/\i<=d.rows.length/\k=i/\Jk 2 junk/\(acc++zfl x b (d.rows.drop i)=zfl x false d.rows/\acc.length<=2*i)/\
  fr=[(2,.c (.fp (jb d))),(3,.c (.fp (jc x))),(4,.c (.ptr (G.next+0) 0 0 0)),(5,.c (vec (G.next+1) v (acc.map jc) junk)),(6,.c (.bool b)),(7,.c (.int .i64 k))]/\V=E G [(0,[[.nils]]),(v,acc.map jc++junk)]) ?_ _ _ _ ⟨0,_,0,[],[],false,rfl,yad _,rfl,Jk.nil,⟨rfl,yai _⟩,rfl,rfl⟩)
 rintro m fr V ⟨i,k,v,junk,acc,b,rfl,hi,hk,hj,⟨hst,hal⟩,rfl,rfl⟩ hrec;have hlen:acc.length<=120:=O;have hbd:((acc.map jc).length+1)*32<=140737488355328:=by rw[yae];exact yaf (yam 32 (Nat.succ_le_succ hlen)) gb
 have hbd2:((acc.map jc++[jc x]).length+1)*32<=140737488355328:=by rw[yba,yae,List.length_singleton];exact yaf (yam 32 (Nat.succ_le_succ (Nat.succ_le_succ hlen))) gb
 by_cases hlt:i<d.rows.length
 ·rw[yab hlt,zfl]at hst
  cases b
  ·by_cases hge:x.id<=d.rows[i].id
   ·by_cases he:d.rows[i].id=x.id
    ·have h1:¬d.rows[i].id≠x.id:=λh=>h he;repeat' first|refine X ?_|((first|apply yG|apply yH|apply yI);exact rfl;(first|exact yax jc hk hlt))|(apply Go.app1;exact rfl;exact rfl;exact rfl;exact rfl;exact rfl;exact zbq;exact hj;exact rfl;exact hbd;intro v' junk' hj')|exact yaF|refine Y ?_ ?_<;>intro _
     all_goals first
      |(exfalso;omega)
      |contradiction
      |skip
     refine Go.keep [2,3,4,5,6,7] (hrec _ _ _ O ⟨i+1,_,v',junk',acc++[x],true,rfl,hlt,wb hk O,hj',⟨?_,by simp only[List.length_append,List.length_singleton];omega⟩, ?_, ?_⟩)
     ·rw[<-hst];simp[he]
     ·simp only[List.map_append,List.map_cons,List.map_nil,List.append_assoc]<;>rfl
     ·simp only[List.map_append,List.map_cons,List.map_nil,List.append_assoc]<;>rfl
    ·have lens2:∀e∈acc.map jc++[jc x],e.length=2:=λe h=>by
      rw[show acc.map jc++[jc x]=(acc++[x]).map jc by simp]at h;exact zbq e h
     repeat' first|refine X ?_|((first|apply yG|apply yH|apply yI);exact rfl;(first|exact yax jc hk hlt))|(apply Go.app1 (v:=v) (hj:=hj);exact rfl;exact rfl;exact rfl;exact rfl;exact rfl;exact zbq;exact rfl;exact hbd;intro v' junk' hj')|(apply Go.app1 (v:=v') (hj:=hj');exact rfl;exact rfl;exact rfl;exact rfl;exact rfl;exact lens2;exact rfl;exact hbd2;intro v2 junk2 hj2)|exact yaF|refine Y ?_ ?_<;>intro _
     all_goals first
      |(exfalso;omega)
      |contradiction
      |skip
     refine Go.keep [2,3,4,5,6,7] (hrec _ _ _ O ⟨i+1,_,v2,junk2,acc++[x]++[d.rows[i]],true,rfl,hlt,wb hk O,hj2,⟨?_,by simp only[List.length_append,List.length_singleton];omega⟩, ?_, ?_⟩)
     ·rw[<-hst];simp[he,hge]
     ·simp only[List.map_append,List.map_cons,List.map_nil,List.append_assoc]<;>rfl
     ·simp only[List.map_append,List.map_cons,List.map_nil,List.append_assoc]<;>rfl
   ·have he:¬d.rows[i].id=x.id:=O;repeat' first|refine X ?_|((first|apply yG|apply yH|apply yI);exact rfl;(first|exact yax jc hk hlt))|(apply Go.app1;exact rfl;exact rfl;exact rfl;exact rfl;exact rfl;exact zbq;exact hj;exact rfl;exact hbd;intro v' junk' hj')|exact yaF|refine Y ?_ ?_<;>intro _
    all_goals first
     |(exfalso;omega)
     |contradiction
     |skip
    refine Go.keep [2,3,4,5,6,7] (hrec _ _ _ O ⟨i+1,_,v',junk',acc++[d.rows[i]],false,rfl,hlt,wb hk O,hj',⟨?_,by simp only[List.length_append,List.length_singleton];omega⟩, ?_, ?_⟩)
    ·rw[<-hst];simp[he,hge]
    ·simp only[List.map_append,List.map_cons,List.map_nil,List.append_assoc]<;>rfl
    ·simp only[List.map_append,List.map_cons,List.map_nil,List.append_assoc]<;>rfl
  ·by_cases he:d.rows[i].id=x.id
   ·have h1:¬d.rows[i].id≠x.id:=λh=>h he;repeat' first|refine X ?_|((first|apply yG|apply yH|apply yI);exact rfl;(first|exact yax jc hk hlt))|(apply Go.app1;exact rfl;exact rfl;exact rfl;exact rfl;exact rfl;exact zbq;exact hj;exact rfl;exact hbd;intro v' junk' hj')|exact yaF|refine Y ?_ ?_<;>intro _
    all_goals first
     |(exfalso;omega)
     |contradiction
     |skip
    refine Go.keep [2,3,4,5,6,7] (hrec _ _ _ O ⟨i+1,_,v,junk,acc,true,rfl,hlt,wb hk O,hj,⟨?_,O⟩, ?_, ?_⟩)
    ·rw[<-hst];simp[he]
    ·rfl
    ·rfl
   ·repeat' first|refine X ?_|((first|apply yG|apply yH|apply yI);exact rfl;(first|exact yax jc hk hlt))|(apply Go.app1;exact rfl;exact rfl;exact rfl;exact rfl;exact rfl;exact zbq;exact hj;exact rfl;exact hbd;intro v' junk' hj')|exact yaF|refine Y ?_ ?_<;>intro _
    all_goals first
     |(exfalso;omega)
     |contradiction
     |skip
    refine Go.keep [2,3,4,5,6,7] (hrec _ _ _ O ⟨i+1,_,v',junk',acc++[d.rows[i]],true,rfl,hlt,wb hk O,hj',⟨?_,by simp only[List.length_append,List.length_singleton];omega⟩, ?_, ?_⟩)
    ·rw[<-hst];simp[he]
    ·simp only[List.map_append,List.map_cons,List.map_nil,List.append_assoc]<;>rfl
    ·simp only[List.map_append,List.map_cons,List.map_nil,List.append_assoc]<;>rfl
 ·rw[yac O,zfl]at hst
  cases b
  ·rw[if_neg yah]at hst;rw[<-hst];repeat' first|refine X ?_|(apply Go.app1;exact rfl;exact rfl;exact rfl;exact rfl;exact rfl;exact zbq;exact hj;exact rfl;exact hbd;intro v' junk' hj')|exact yaF|refine Y ?_ ?_<;>intro _
   refine .ret (ja2 rfl rfl rfl (yad _) rfl) ⟨_,rfl,.agg rfl λj hj0=>?_⟩;have hj1:j=0:=by simp at hj0;omega
   subst hj1;have e1:acc.map jc++[jc x]=(acc++[x]).map jc:=gx
   have hz:FrzV (E G [(0,[[vec (G.next+1) v' (acc.map jc++[jc x]) junk']]),(v',acc.map jc++[jc x]++junk')]) G.next (.c (vec (G.next+1) v' (acc.map jc++[jc x]) junk')) (.c (.fz (acc.map jc++[jc x]))):=
    jbu (k:=1) rfl (by rw[e1];exact jgp _) (ybl _ _)
   cases hz with
   |c h=>
    have h2:Frz (E G [(0,[[vec (G.next+1) v' (acc.map jc++[jc x]) junk']]),(v',acc.map jc++[jc x]++junk')]) G.next (vec (G.next+1) v' (acc.map jc++[jc x]) junk') (.fz ((acc++[x]).map jc)):=by
     rw[<-e1];exact h
    exact h2
  ·rw[if_pos rfl,ybg]at hst;rw[<-hst];repeat' first|refine X ?_|exact yaF|refine Y ?_ ?_<;>intro _
   refine .ret (ja2 rfl rfl rfl (yad _) rfl) ⟨_,rfl,.agg rfl λj hj0=>?_⟩;have hj1:j=0:=by simp at hj0;omega
   subst hj1
   have hz:FrzV (E G [(0,[[vec (G.next+1) v (acc.map jc) junk]]),(v,acc.map jc++junk)]) G.next (.c (vec (G.next+1) v (acc.map jc) junk)) (.c (.fz (acc.map jc))):=
    jbu (k:=1) rfl (jgp _) (ybl _ _)
   cases hz with
   |c h=>exact h
theorem wl3(rows:List RowD)(cols:List Int)(key:List Val)(hr:rows.length<=1048576)(hx:cols.length<=34359738368)(hi:∀r∈rows,InR cols r.vals.length)(G:wa):Ok Tryz.prog 352 [.c (.fz (rows.map jc)),.c (.fz (cols.map encI)),.c (.fz (key.map encV))] G (NewV G (.c (.fz ((zad rows cols key).map encI)))):=by
 refine Ok.run mixed wcy gz λhS hA=>?_;clear hS hA;repeat' first|refine X ?_|exact yaF|refine Y ?_ ?_<;>intro _
 refine Go.keep [1,2,7,11,12,13] (Go.loops (I:=λm fr V=>∃(i:Nat) (k:Int) (v:Nat) (junk:List (List Ce)) (ids:List Int),m=rows.length-i/\i<=rows.length/\k=i/\Jk 1 junk/\ids=zad (rows.take i) cols key/\
  fr=[(1,.c (.fz (cols.map encI))),(2,.c (.fz (key.map encV))),(7,.c (vec (G.next+0) v (ids.map encI) junk)),(11,.c (.fz (rows.map jc))),(12,.c (.int .i64 (rows.length:Int))),(13,.c (.int .i64 k))]/\V=E G [(v,ids.map encI++junk)]) ?_ _ _ _ ⟨0,_,0,[],[],rfl,yad _,rfl,Jk.nil,rfl,rfl,rfl⟩)
 rintro m fr V ⟨i,k,v,junk,ids,rfl,hile,hk,hj,hids,rfl,rfl⟩ hrec;by_cases hlt:i<rows.length
 ·have c1:=wkp cols rows[i].vals key hx (hi _ (yaa hlt));have hn:=jdu (cols:=cols) (key:=key) hlt;rw[<-hids]at hn;have hl:(ids.map encI).length<=1048576:=by rw[yae,hids];have:=wda (rows:=rows.take i) (cols:=cols) (key:=key);rw[yasq]at this;omega
  have hbd:((ids.map encI).length+1)*8<=140737488355328:=O;have hz1:∀e∈ids.map encI,e.length=1:=λe he=>(jas e he).1;have e1:ids.map encI++[encI rows[i].id]=(ids++[rows[i].id]).map encI:=gx;clear hi
  cases hb:hasB cols key rows[i].vals
  ·rw[hb]at c1 hn;rw[if_neg yah,ybg]at hn;repeat' first|refine X ?_|((first|apply yG|apply yH|apply yI);exact rfl;(first|exact yax jc hk hlt))|refine yaC (c1) ?_|exact yaF|refine Y ?_ ?_<;>intro _
   exact Go.keep [1,2,7,11,12,13] (hrec _ _ _ O ⟨i+1,_,v,junk,ids,rfl,hlt,wb hk O,hj,hn.symm,rfl,rfl⟩)
  ·rw[hb]at c1 hn;rw[if_pos rfl]at hn;repeat' first|refine X ?_|((first|apply yG|apply yH|apply yI);exact rfl;(first|exact yax jc hk hlt))|(apply Go.app1;exact rfl;exact rfl;exact rfl;exact rfl;exact rfl;exact hz1;exact hj;exact rfl;exact hbd;intro v' junk' hj')|refine yaC (c1) ?_|exact yaF|refine Y ?_ ?_<;>intro _
   refine Go.keep [1,2,7,11,12,13] (hrec _ _ _ O ⟨i+1,_,v',junk',ids++[rows[i].id],rfl,hlt,wb hk O,hj',hn.symm, ?_, ?_⟩)
   ·rw[<-e1];rfl
   ·rw[<-e1];rfl
 ·repeat' first|refine X ?_|exact yaF|refine Y ?_ ?_<;>intro _
  refine .ret rfl ?_;rw[yan O]at hids;rw[<-hids];exact zcq jas hj
theorem wk8(t:zd)(rows:List RowD)(id:Int)(vals:List Val)(hr:rows.length<=1048576)(hu:t.uniques.length<=3)(hx:∀k∈zt t,k.length<=34359738368)(hv:∀k∈zt t,InR k vals.length)(hi:∀k∈zt t,∀r∈rows,InR k r.vals.length):
 ∀G,Ok Tryz.prog 222 [.agg (ja t),.c (.fz (rows.map jc)),.c (.int .i64 id),.c (.fz (vals.map encV))] G (NewV G (.c (.fz ((j8 rows (zt t) id vals).map encI)))):=by
 refineλG=>Ok.run mixed zfe gz λhS hA=>?_;clear hA;repeat' first|refine X ?_|exact yaF|refine Y ?_ ?_<;>intro _
 refine Go.keep [1,2,7,9,10,20,21,22] (Go.loops (I:=λm fr V=>∃(i:Nat) (k:Int) (v:Nat) (junk:List (List Ce)),m=t.uniques.length-i/\i<=t.uniques.length/\k=i/\Jk 1 junk/\
  fr=[(1,.c (.fz (rows.map jc))),(2,.c (.int .i64 id)),(7,.c (.fp [.fz (vals.map encV)])),(9,.c (vec (G.next+0) 0 [] [])),(10,.c (vec (G.next+1) v ((t.key::(t.uniques.take i).map (·.cols)).map jdh) junk)),(20,.c (.fz (t.uniques.map jo))),(21,.c (.int .i64 (t.uniques.length:Int))),(22,.c (.int .i64 k))]/\
  V=E G [(0,[]),(v,(t.key::(t.uniques.take i).map (·.cols)).map jdh++junk)]) ?_ _ _ _ ⟨0,_,0,[],rfl,yad _,rfl,Jk.nil,rfl,rfl⟩)
 rintro m fr V ⟨i,k,v,junk,rfl,hile,hk,hj,rfl,rfl⟩ hrec;by_cases hlt:i<t.uniques.length
 ·have hn1:∀e∈(t.key::(t.uniques.take i).map (·.cols)).map jdh,e.length=1:=λe he=>by
   obtain⟨a,_,rfl⟩:=List.mem_map.1 he
   rfl
  have hbd:(((t.key::(t.uniques.take i).map (·.cols)).map jdh).length+1)*24<=140737488355328:=by simp;omega
  have e1:(t.key::(t.uniques.take (i+1)).map (·.cols)).map jdh=(t.key::(t.uniques.take i).map (·.cols)).map jdh++[jdh t.uniques[i].cols]:=by
   rw[yaj hlt,yaqq,<-List.cons_append,yaqq];rfl
  repeat' first|refine X ?_|((first|apply yG|apply yH|apply yI);exact rfl;(first|exact yax jo hk hlt))|(apply Go.app1 (k:=1);exact rfl;exact rfl;exact rfl;exact rfl;exact rfl;exact hn1;exact hj;exact rfl;exact hbd;intro v' junk' hj')|exact yaF|refine Y ?_ ?_<;>intro _
  refine Go.keep [1,2,7,9,10,20,21,22] (hrec _ _ _ O ⟨i+1,_,v',junk',rfl,hlt,wb hk O,hj', ?_, ?_⟩)
  ·rw[e1];rfl
  ·rw[e1];rfl
 ·rw[yan O];rw[<-zt];clear hrec;repeat' first|refine X ?_|exact yaF|refine Y ?_ ?_<;>intro _
  refine Go.keep [2,7,9,10,32,33,34] (Go.loops (I:=λm fr V=>∃(i:Nat) (k:Int) (w:Nat) (junkw:List (List Ce)) (ids:List Int),m=rows.length-i/\i<=rows.length/\k=i/\Jk 1 junkw/\ids=j8 (rows.take i) (zt t) id vals/\
   fr=[(2,.c (.int .i64 id)),(7,.c (.fp [.fz (vals.map encV)])),(9,.c (vec (G.next+0) w (ids.map encI) junkw)),(10,.c (vec (G.next+1) v ((zt t).map jdh) junk)),(32,.c (.fz (rows.map jc))),(33,.c (.int .i64 (rows.length:Int))),(34,.c (.int .i64 k))]/\
   V=E G [(w,ids.map encI++junkw),(v,(zt t).map jdh++junk)]) ?_ _ _ _ ⟨0,_,0,[],[],rfl,yad _,rfl,Jk.nil,rfl,rfl,rfl⟩)
  rintro m fr V ⟨i,k,w,junkw,ids,rfl,hile,hk,hjw,hids,rfl,rfl⟩ hrec;by_cases hlt:i<rows.length
  ·have cc:=wj mixed jax ja4 jdh (λu=>.c (.fz (u.map encI))) (λ_=>rfl) (λ_=>rfl) (zt t) (zgp vals rows[i]) 296 [] [.fp [.fz (vals.map encV)],.fp (jc rows[i])] (by simp[zt];omega) (λj hj _=>wk7 _ vals rows[i] (hx _ (List.getElem_mem hj)) (hv _ (List.getElem_mem hj)) (hi _ (List.getElem_mem hj) _ (List.getElem_mem hlt)));have hn:=ze2 (keys:=zt t) (id:=id) (vals:=vals) hlt;rw[<-hids]at hn;have hl:(ids.map encI).length<=1048576:=by rw[yae,hids];have:=jcl (rows:=rows.take i) (keys:=zt t) (id:=id) (vals:=vals);rw[yasq]at this;omega
   have hbd:((ids.map encI).length+1)*8<=140737488355328:=O;have hz1:∀e∈ids.map encI,e.length=1:=λe he=>(jas e he).1;have e1:ids.map encI++[encI rows[i].id]=(ids++[rows[i].id]).map encI:=gx;have hfz:FrzV (E G [(w,ids.map encI++junkw),(v,(zt t).map jdh++junk)]) 0 (.c (vec (G.next+1) v ((zt t).map jdh) junk)) (.c (.fz ((zt t).map jdh))):=jbu (k:=1) rfl (λe he x hx=>by obtain⟨a,_,rfl⟩:=List.mem_map.1 he;exact jl1 0 a x hx) (yad _);generalize (zt t).any (zgp vals rows[i])=b at cc hn;clear hi hv hx;by_cases h0:rows[i].id=id
   ·rw[beq_iff_eq.2 h0,Bool.not_true,ybi,if_neg yah,ybg]at hn;repeat' first|refine X ?_|((first|apply yG|apply yH|apply yI);exact rfl;(first|exact yax jc hk hlt))|exact yaF|refine Y ?_ ?_<;>intro _
    all_goals first
     |exact Go.keep [2,7,9,10,32,33,34] (hrec _ _ _ O ⟨i+1,_,w,junkw,ids,rfl,hlt,wb hk O,hjw,hn.symm,rfl,rfl⟩)
     |(exfalso;simp_all;done)
   ·rw[beq_eq_false_iff_ne.2 h0,Bool.not_false,yaz]at hn
    cases b
    ·rw[if_neg yah,ybg]at hn;repeat' first|refine X ?_|((first|apply yG|apply yH|apply yI);exact rfl;(first|exact yax jc hk hlt))|exact yaF|refine Y ?_ ?_<;>intro _
     refine Go.lcall rfl rfl rfl cc (.bool _) (.own hfz (.same .nil)) ?_;repeat' first|refine X ?_|exact yaF|refine Y ?_ ?_<;>intro _
     exact Go.keep [2,7,9,10,32,33,34] (hrec _ _ _ O ⟨i+1,_,w,junkw,ids,rfl,hlt,wb hk O,hjw,hn.symm,rfl,rfl⟩)
    ·rw[if_pos rfl]at hn;repeat' first|refine X ?_|((first|apply yG|apply yH|apply yI);exact rfl;(first|exact yax jc hk hlt))|exact yaF|refine Y ?_ ?_<;>intro _
     refine Go.lcall rfl rfl rfl cc (.bool _) (.own hfz (.same .nil)) ?_;repeat' first|refine X ?_|(apply Go.app1 (k:=0);exact rfl;exact rfl;exact rfl;exact rfl;exact rfl;exact hz1;exact hjw;exact rfl;exact hbd;intro v' junk' hj')|exact yaF|refine Y ?_ ?_<;>intro _
     refine Go.keep [2,7,9,10,32,33,34] (hrec _ _ _ O ⟨i+1,_,v',junk',ids++[rows[i].id],rfl,hlt,wb hk O,hj',hn.symm, ?_, ?_⟩)
     ·rw[<-e1];rfl
     ·rw[<-e1];rfl
  ·repeat' first|refine X ?_|exact yaF|refine Y ?_ ?_<;>intro _
   rw[yan O]at hids;rw[<-hids];refine Go.freezeN (l:=[(w,ids.map encI++junkw)]) (m:=[(v,(zt t).map jdh++junk)]) (fr':=[(8,.c (vec (G.next+0) w (ids.map encI) junkw))]) hS (λb hb e he x hx=>?_) (yai _) (.frz rfl (.refl (je0 (yao _))) .nil) ?_
   ·rw[List.mem_singleton.1 hb]at he;rcases List.mem_append.1 he with he|he
    ·exact((jas e he).2 x hx).old _
    ·exact((hjw e he).2 x hx).old _
   ·exact .ret rfl (zcq jas hjw)
variable {P:Program}{G:wa}{args args':List AV}
theorem Lend.fresh{y:AV}(h:Lend G args args')(hp:∀G,Ok P n args' G (NewV G y)):Ok P n args G (λr G'=>r=y/\G'=G):=by
 have h1:=h.new hp;refine .old' h1 λhS ha=>Ok.pure h1 y (λid y hy=>(hS id y hy).1) ?_;rintro r G1 ⟨hg,hh⟩;exact⟨λid y hy=>by rw[hg.lt (hS id y hy).1];exact hy,hh.frz λa ha=>ha.1⟩
theorem Ok.run0(hm:P.follows .mixedOrders=true){fz:List Nat}{f:Nat}{af:AFn}(h:jd P fz f=some af){args:List AV}{G:wa}{R:AV->wa->Prop}(hn:args.length<=af.nt)
 (hg:OldS G->(∀x∈args,∀y∈x.all,Old G.next y)->Go P G.next af.nt af.rets R [.code af.body] (frOf 0 args) G):Ok P f args G R:=
 .old h λhS ha=>.of_go hm h hn (hg hS ha)
theorem Lend.made{s:Nat}{ys:List (List Ce)}(h:Lend G args args')(hp:∀G,Ok P n args' G (Made G s ys))(hy:∀e∈ys,∀x∈e,Flat x):Ok P n args G (Made G s ys):=by
 obtain⟨hl,hz⟩:=h.spec;refine(Ok.lent (hp (wa.none G.next)) hl hz ?_).mono ?_
 ·rintro r V ⟨v,junk,hj,rfl,rfl⟩;refine⟨[(v,ys++junk)],rfl,λb hb e he x hx=>?_,λy hy=>?_⟩
  ·rw[List.mem_singleton.1 hb]at he;rcases List.mem_append.1 he with he|he
   ·exact .flat (hy e he x hx)
   ·exact .flat ((hj e he).2 x hx)
  ·rw[List.mem_singleton.1 hy];exact .sl _ _ _ _ _ (ybl _ _)
 ·rintro r G' ⟨l,rfl,v,junk,hj,hr,e⟩;obtain rfl:=wn4 e;exact⟨v,junk,hj,hr,rfl⟩
section
variable {L:ChL}{n:Nat}{s:List zd}{xs:List Ce}{db:List Data}{V:wa}{fr:Fr}
theorem jbv(h:ww L n s xs db V){a:Opd}(ha:a.ev fr=some (.c (.ptr L.c L.vc 0 0))):aop (.load false 1 a) fr V=some (.c (.fz (s.map ja)),V):=
 wm ha h.c rfl (Nat.zero_lt_succ _)
theorem wcq(h:ww L n s xs db V){a:Opd}(ha:a.ev fr=some (.c (.ptr L.c L.vc 0 1))):aop (.load false 1 a) fr V=some (.c (.sl L.d L.vd 0 db.length (db.length+L.junk.length)),V):=
 wm ha h.c rfl (yao _)
theorem wea(h:ww L n s xs db V){x y:Opd}{kd:IntKind}{z:Int}{k:Nat}(hx:x.ev fr=some (.c (.sl L.d L.vd 0 db.length (db.length+L.junk.length))))(hy:y.ev fr=some (.c (.int kd z)))(hz:z=(k:Int))(hk:k<db.length):aop (.iaddr 1 x y) fr V=some (.c (.ptr L.d L.vd (0+k) 0),V):=
 je hx hy hz hk h.d (za0 (by rw[h.len];exact hk)) rfl
theorem zeb(h:ww L n s xs db V){a:Opd}{k:Nat}(ha:a.ev fr=some (.c (.ptr L.d L.vd (0+k) 0)))(hk:k<xs.length):aop (.load false 1 a) fr V=some (.c xs[k],V):=
 wm ha h.d (za0 hk) (yao _)
end
theorem zm5(r:RowD)(id:Int):Pure Tryz.prog 189 [.agg (jc r),.c (.fp [.int .i64 id])] (.c (.bool (r.id==id))):=by
 refine yaq [2] wcw λG=>?_;repeat' first|refine X ?_|exact yaF|refine Y ?_ ?_<;>intro _
 exact .ret rfl (.bool rfl)
theorem jgs(i:Int)(x:Ce)(id:Int):Pure Tryz.prog 344 [.agg [.int .i64 i,x],.c (.fp [.int .i64 id])] (.c (.bool (i==id))):=by
 refine yaq [2] zca λG=>?_;repeat' first|refine X ?_|exact yaF|refine Y ?_ ?_<;>intro _
 exact .ret rfl (.bool rfl)
theorem jdv{L:ChL}{s:List zd}{xs:List Ce}{db:List Data}{V:wa}(h:ww L n s xs db V){k:Nat}(hk:k<db.length)(hk2:k<xs.length)(id:Int)(hl:db[k].rows.length<=60):
 (wav db[k].rows id=none->Ok Tryz.prog 84 [.c (.ptr L.c L.vc 0 0),.c (.int .i64 (k:Int)),.c (.int .i64 id)] V (λr V'=>r=.c .nilp/\V'=V))/\
 (∀j,∀hj:j<db[k].rows.length,idxA (λr:RowD=>r.id==id) db[k].rows 0=(j:Int)->∀lab ps i v junk,At L n k lab V db[k].rows xs[k] ps i v junk->Ok Tryz.prog 84 [.c (.ptr L.c L.vc 0 0),.c (.int .i64 (k:Int)),.c (.int .i64 id)] V (λr V'=>r=.c (.ptr i v (0+j) 0)/\V'=V)):=by
 have hz:=h.frzR hk hk2;have ci:=wbm mixed zag jc (λr=>.agg (jc r)) (λ_=>rfl) (λ_=>rfl) db[k].rows (λr:RowD=>r.id==id) 189 [] [.fp [.int .i64 id]] (yaf hl gb) (λj hj _=>zm5 _ id);refine⟨λhno=>?_,λj hj hix lab ps i v junk hat=>?_⟩
 ·refine Ok.run0 mixed ja9 gz λhS hA=>?_;clear hS hA;have hix:idxA (λr:RowD=>r.id==id) db[k].rows 0=-1:=by
   rcases zl db[k].rows id with⟨h1,_⟩|⟨j,hj,_,h2⟩
   ·exact h1
   ·rw[hno]at h2
    cases h2
  rw[hix]at ci;repeat' first|refine X ?_|((first|apply yG|apply yH|apply yI);exact rfl;(first|exact wcq h rfl|exact wea h rfl rfl rfl hk|exact zeb h rfl hk2))|exact yaF|refine Y ?_ ?_<;>intro _
  refine Go.lcall rfl rfl rfl ci (.int _ _) (.own hz (.same .nil)) ?_;repeat' first|refine X ?_|exact yaF|refine Y ?_ ?_<;>intro _
  exact .ret rfl ⟨rfl,rfl⟩
 ·refine Ok.run0 mixed ja9 gz λhS hA=>?_;clear hS hA;rw[hix]at ci;repeat' first|refine X ?_|((first|apply yG|apply yH|apply yI);exact rfl;(first|exact wcq h rfl|exact wea h rfl rfl rfl hk|exact zeb h rfl hk2))|exact yaF|refine Y ?_ ?_<;>intro _
  refine Go.lcall rfl rfl rfl ci (.int _ _) (.own hz (.same .nil)) ?_;rw[hat.x];repeat' first|refine X ?_|((first|apply yG|apply yH|apply yI);exact rfl;(first|exact je rfl rfl rfl (by rw[yae,hat.len];exact hj) hat.get (hat.at hj) rfl))|exact yaF|refine Y ?_ ?_<;>intro _
  exact .ret rfl ⟨rfl,rfl⟩
variable {id:Nat}{a:Opd}{es:List (List Ce)}{e:List Ce}
theorem zbr{fr:Fr}{s v i:Nat}(ha:a.ev fr=some (.c (.ptr id v i 0)))(hl:G.get id=some (v,es))(he:es[i]?=some e)(hs:e.length=s):aop (.load true s a) fr G=some (.agg e,G):=by
 simp[aop,ha,wa.at_,hl,he,wis hs]
theorem jkc{fr:Fr}{s v i:Nat}{y:Opd}{cs:List Ce}(ha:a.ev fr=some (.c (.ptr id v i 0)))(hy:y.ev fr=some (.agg cs))(hl:G.get id=some (v,es))(he:es[i]?=some e)(hs:e.length=s)(hc:cs.length=s):aop (.store s a y) fr G=some (.un,G.put id (v,es.set i cs)):=by
 simp[aop,ha,hy,AV.cells,hl,he,hc,hs,weg hs hc]
variable {x:Nat×List (List Ce)}
theorem zl4{y:Nat×List (List Ce)}:(G.put id x).put id y=G.put id y:=by
 refine wa.ext rfl λj=>?_;simp only[wa.put];split<;>rfl
theorem zih(h:G.get id=some x):G.put id x=G:=by
 refine wa.ext rfl λj=>?_;simp only[wa.put];split
 ·rename_i e;rw[e,h]
 ·rfl
theorem ja7:(G.put id x).get id=some x:=if_pos rfl
theorem jfn{ps:List PRow}:∀e∈ps.map encP,e.length=2:=λe he=>by
 obtain⟨p,_,rfl⟩:=List.mem_map.1 he
 rfl
set_option maxHeartbeats 1000000 in
theorem zk9(ps:List PRow)(junk:List (List Ce))(id:Int)(hx:ps.length<=60)(a v:Nat)(V:wa)(hg:V.get a=some (v,ps.map encP++junk))(hj:Jk 2 junk)(hz:FrzV V 0 (.c (vec a v (ps.map encP) junk)) (.c (.fz ((ps.map (·.1)).map jc))))
 (j0:Nat) (hj0:j0<ps.length) (hix:idxA (λr:RowD=>r.id==id) (ps.map (·.1)) 0=(j0:Int)) (hp0:(ps[j0].1.id==id)=true) (hpre:∀r∈ps.take j0,(r.1.id==id)=false):
 Ok Tryz.prog 343 [.c (vec a v (ps.map encP) junk),.c (.fn 344 [] [.fp [.int .i64 id]])] V (λr V'=>∃junk',Jk 2 junk'/\r=.c (vec a v ((ps.filter λr=> !(r.1.id==id)).map encP) junk')/\V'=V.put a (v,(ps.filter λr=> !(r.1.id==id)).map encP++junk')):=by
 refine Ok.run0 mixed wbx gz λhS hA=>?_;clear hA;have ci:=wbm mixed zag jc (λr=>.agg (jc r)) (λ_=>rfl) (λ_=>rfl) (ps.map (·.1)) (λr:RowD=>r.id==id) 344 [] [.fp [.int .i64 id]] (by rw[yae];exact yaf hx gb) (λj hj _=>jgs _ _ id);rw[hix]at ci;have hne:¬(j0:Int)=-1:=O;repeat' first|refine X ?_|exact yaF|refine Y ?_ ?_<;>intro _
 refine Go.lcall rfl rfl rfl ci (.int _ _) (.own hz (.same .nil)) ?_;repeat' first|refine X ?_|exact yaF|refine Y ?_ ?_<;>intro _
 have hsz:∀e∈ps.map encP++junk,e.length=2:=λe he=>by
  rcases List.mem_append.1 he with he|he
  ·exact jfn e he
  ·exact(hj e he).1
 have hf0:(ps.take (j0+1)).filter (λr=> !(r.1.id==id))=ps.take j0:=by
  rw[yaj hj0,List.filter_append,List.filter_cons,hp0,List.filter_eq_self.2 λr hr=>by rw[hpre r hr];rfl];simp
 refine Go.keep [0,1,5,6] (Go.loops (I:=λm fr V'=>∃(j i:Nat) (kj ki:Int) (es:List (List Ce)),m=ps.length-j/\j<=ps.length/\kj=j/\ki=i/\(i<j/\i=((ps.take j).filter λr=> !(r.1.id==id)).length/\es.length=ps.length+junk.length/\(∀e∈es,e.length=2)/\es.take i=((ps.take j).filter λr=> !(r.1.id==id)).map encP/\es.drop j=(ps.drop j).map encP++junk)/\
  fr=[(0,.c (vec a v (ps.map encP) junk)),(1,.c (.fn 344 [] [.fp [.int .i64 id]])),(5,.c (.int .i64 ki)),(6,.c (.int .i64 kj))]/\V'=V.put a (v,es)) ?_ _ _ _ ⟨j0+1,j0,_,_,ps.map encP++junk,rfl,hj0,wb rfl O,rfl,⟨yao _,by rw[hf0,yasq];omega,gx,hsz,by rw[hf0,List.take_append_of_le_length gq,List.map_take],by rw[List.drop_append_of_le_length gq,List.map_drop]⟩,rfl,(zih hg).symm⟩)
 rintro m fr V' ⟨j,i,kj,ki,es,rfl,hjl,hkj,hki,⟨hij,hil,hel,hes,htk,hdr⟩,rfl,rfl⟩ hrec;have hn0:V.next<=(V.put a (v,es)).next:=yai _;by_cases hlt:j<ps.length
 ·have hltm:j<(ps.map encP).length:=by rw[yae];exact hlt
  have hej:es[0+j]?=some (encP ps[j]):=by
   have h1:es[0+j]?=(es.drop j)[0]?:=by rw[List.getElem?_drop];simp
   rw[h1,hdr,yab hlt]
   rfl
  have hdr2:es.drop (j+1)=(ps.drop (j+1)).map encP++junk:=by
   rw[<-List.tail_drop,hdr,yab hlt]
   rfl
  have hft:(ps.take (j+1)).filter (λr=> !(r.1.id==id))=(ps.take j).filter (λr=> !(r.1.id==id))++if(ps[j].1.id==id)=true then[]else[ps[j]]:=by
   rw[yaj hlt,List.filter_append,List.filter_cons]
   cases ps[j].1.id==id<;>rfl
  have c1:=jgs ps[j].1.id ps[j].2 id
  cases hb:ps[j].1.id==id
  ·rw[hb]at c1;rw[hb,if_neg yah]at hft;have hlti:i<(ps.map encP).length:=by rw[yae];omega
   have hil2:i<es.length:=O;have hei:es[0+i]?=some es[i]:=by rw[ybo,yag hil2]
   repeat' first|refine X ?_|((first|apply yG|apply yH|apply yI);exact rfl;(first|exact je rfl rfl hkj hltm ja7 hej rfl|exact je rfl rfl hki hlti ja7 hei (hes _ (yaa hil2))|exact zbr rfl ja7 hej rfl|exact jkc rfl rfl ja7 hei (hes _ (yaa hil2)) rfl))|refine yaC (c1) ?_|exact yaF|refine Y ?_ ?_<;>intro _
   rw[zl4];refine Go.keep [0,1,5,6] (hrec _ _ _ O ⟨j+1,i+1,_,_,es.set (0+i) (encP ps[j]),rfl,hlt,wb hkj O,wb hki O,⟨O,by rw[hft,yba,<-hil];rfl,by rw[yarq];exact hel,λe he=>?_, ?_, ?_⟩,rfl,rfl⟩)
   ·rcases ybe he with he|rfl
    ·exact hes e he
    ·rfl
   ·rw[hft,yaqq,<-htk,ybo,yaj (by rw[yarq];exact hil2),List.take_set_of_le (yai _),List.getElem_set_self]
    rfl
   ·rw[ybo,List.drop_set_of_lt O,hdr2]
  ·rw[hb]at c1;rw[hb,if_pos rfl,ybg]at hft;repeat' first|refine X ?_|((first|apply yG|apply yH|apply yI);exact rfl;(first|exact je rfl rfl hkj hltm ja7 hej rfl|exact zbr rfl ja7 hej rfl))|refine yaC (c1) ?_|exact yaF|refine Y ?_ ?_<;>intro _
   exact Go.keep [0,1,5,6] (hrec _ _ _ O ⟨j+1,i,_,_,es,rfl,hlt,wb hkj O,hki,⟨O,by rw[hft];exact hil,hel,hes,by rw[hft];exact htk,hdr2⟩,rfl,rfl⟩)
 ·have hje:j=ps.length:=O;subst hje;rw[yan (yai _)]at htk hil;rw[List.drop_length,List.map_nil,ybs]at hdr;clear hrec;have hilm:i<=(ps.map encP).length:=by rw[yae];omega
  have e0:(ps.map encP).length=ps.length:=yae _;have hsp:∀N,N=(ps.map encP).length-i->zj es (0+i) (List.replicate N [.int .i64 0,.nils])=(ps.filter λr=> !(r.1.id==id)).map encP++(List.replicate N [.int .i64 0,.nils]++junk):=by
   rintro N rfl;rw[zj,ybo,htk,ybn,show i+((ps.map encP).length-i)=ps.length by omega,hdr,ybq]
  repeat' first|refine X ?_|((first|apply yG|apply yH|apply yI);exact rfl;(first|exact wcu (l:=i) (h:=(ps.map encP).length) (m:=(ps.map encP).length+junk.length) rfl rfl rfl rfl (jfu hki) rfl rfl ja7 hes hilm (ybl _ _) (yai _)|exact wli rfl ja7 rfl hes O))|exact yaF|refine Y ?_ ?_<;>intro _
  rw[zl4,hsp _ rfl];have hfl:(ps.filter λr=> !(r.1.id==id)).length=i:=hil.symm;generalize hpf:(ps.filter λr=> !(r.1.id==id))=pf at hfl;have hj2:Jk 2 (List.replicate ((ps.map encP).length-i) [Ce.int .i64 0,.nils]++junk):=λe he=>by
   rcases List.mem_append.1 he with he|he
   ·rw[ybj he];refine⟨rfl,λx hx=>?_⟩;simp only[List.mem_cons,List.not_mem_nil,or_false]at hx;rcases hx with rfl|rfl
    ·exact .int _ _
    ·exact .nils
   ·exact hj e he
  have hes2:∀e∈pf.map encP++(List.replicate ((ps.map encP).length-i) [Ce.int .i64 0,.nils]++junk),e.length=2:=λe he=>by
   rcases List.mem_append.1 he with he|he
   ·exact jfn e he
   ·exact(hj2 e he).1
  repeat' first|refine X ?_|((first|apply yG|apply yH|apply yI);exact rfl;(first|exact wcu (l:=0) (h:=i) (m:=(ps.map encP).length+junk.length) rfl rfl rfl rfl rfl (jfu hki) rfl ja7 hes2 (yad _) O (yai _)))|exact yaF|refine Y ?_ ?_<;>intro _
  refine .ret rfl ⟨_,hj2, ?_,rfl⟩;have e1:(pf.map encP).length=i:=by rw[yae];exact hfl
  rw[vec,e1,yba,ybn];simp only[Nat.sub_zero,Nat.zero_add];rw[show(ps.map encP).length+junk.length=i+((ps.map encP).length-i+junk.length) by omega]
end Go.Proofs.YtedaadaaibofaaaGreat.Am
namespace Go.Proofs.YtedaadaaibofaaaGreat.Am
variable {I:Nat->Int->Prop}

def resV(r:Res):AV:=.tup [.c (if r.2=0 then .fz (r.1.map jb)else .nils),.c (.int .i64 r.2)]
theorem jaj{r:Res}(h:r.2=0):resV r=.tup [.c (.fz (r.1.map jb)),.c (.int .i64 0)]:=by rw[resV,if_pos h,h]
theorem waf{r:Res}{e:Int}(h:r.2=e)(h0:e≠0):resV r=.tup [.c .nils,.c (.int .i64 e)]:=by rw[resV,h,if_neg h0]
theorem wgs{db:List Data}:resV (db,0)=.tup [.c (.fz (db.map jb)),.c (.int .i64 0)]:=rfl
theorem jan{e:Int}(h0:e≠0):resV ([],e)=.tup [.c .nils,.c (.int .i64 e)]:=waf rfl h0
theorem zg(r:Res)(n:Nat):∀y∈(resV r).all,Old n y:=λy hy=>by
 simp only[resV,AV.all,AV.all.allL,List.append_nil,List.mem_append,List.mem_singleton]at hy;rcases hy with rfl|rfl
 ·split
  ·exact zae (jb2 _)
  ·exact .nils
 ·exact .int _ _
variable {n:Nat}
theorem wa7{l:List zd}:∀y∈(AV.c (.fz (l.map ja))).all,Old n y:=λy hy=>by
 rw[List.mem_singleton.1 hy];exact zae (zhl _)
theorem jbj{l:List Data}:∀y∈(AV.c (.fz (l.map jb))).all,Old n y:=λy hy=>by
 rw[List.mem_singleton.1 hy];exact zae (jb2 _)
variable {s:List zd}
theorem zn7(hs:SchG s){db:List Data}(h:DbG I s db){n:Nat}(hn:n<s.length)(hn2:n<db.length){x:RowD}(hx:x.vals.length=s[n].cols.length):wnt s[n] db[n] x:=by
 have ht:=hs.tab _ (yaa hn);have hb:=hs.big _ (yaa hn);have hkey:∀k∈zt s[n],k.length<=34359738368/\InR k s[n].cols.length:=λk hk=>by
  rw[zt]at hk;rcases List.mem_cons.1 hk with rfl|hk
  ·exact⟨hb.2.2.1,ht.key⟩
  ·obtain⟨u,hu,rfl⟩:=List.mem_map.1 hk;exact⟨hb.2.2.2.1.2 u hu,ht.uniq u hu⟩
 exact⟨ht.uniq3,λk hk=>(hkey k hk).1,λk hk=>by rw[hx];exact(hkey k hk).2,λk hk r hr=>by rw[((h.rows n hn hn2).fit r hr).1];exact(hkey k hk).2⟩
theorem fkR(hs:SchG s){db:List Data}(h:DbG I s db){n:Nat}(hn:n<s.length){vals:List Val}(hl:vals.length=s[n].cols.length):∀f∈s[n].fks,∃m,FkR s db vals f m:=λf hf=>by
 obtain⟨m,hm,hr⟩:=hs.ref _ (yaa hn) f hf;have hm2:m<db.length:=by rw[h.len];exact hm
 have hR:=h.rows m hm hm2;exact⟨m,hm,hm2,hr,yaf hR.len gb,(hs.big _ (yaa hm)).2.2.1,((hs.big _ (yaa hn)).2.2.2.2.2.2 f hf).1,by rw[hl];exact(hs.tab _ (yaa hn)).fk f hf,λq hq=>by rw[(hR.fit q hq).1];exact(hs.tab _ (yaa hm)).key⟩
structure weu(I:Nat->Int->Prop)(s:List zd)(run:Chg->List Data->Res)(dp:Int):Prop where
 keeps:zgq I s run
 del:∀(n:Nat) (id:Int) (db:List Data) (x:RowD),DbG I s db->n<s.length->wav (jv db n) id=some x->Pure Tryz.prog 257 [.c (.fz (s.map ja)),.c (.fz (db.map jb)),.c (.int .i64 (n:Int)),.c (.int .i64 id),.c (.int .i64 dp)] (resV (run (.del n id) db))
 upd:∀(n:Nat) (id:Int) (vals:List Val) (rep:Bool) (db:List Data),DbG I s db->zkc s (.upd n id vals rep)->Pure Tryz.prog 259 [.c (.fz (s.map ja)),.c (.fz (db.map jb)),.c (.int .i64 (n:Int)),.c (.int .i64 id),.c (.fz (vals.map encV)),.c (.bool rep),.c (.int .i64 dp)] (resV (run (.upd n id vals rep) db))
set_option maxHeartbeats 1000000 in
theorem wdv{run:Chg->List Data->Res}{deep:Int}(hs:SchG s)(hr:weu I s run (IntKind.i64.wrap (deep+1))){n:Nat}(hn:n<s.length)(x:RowD)(hx:x.vals.length=s[n].cols.length)(rep:Bool)(db:List Data)(h:DbG I s db):
 Pure Tryz.prog 322 [.c (.fz (s.map ja)),.c (.fz (db.map jb)),.c (.int .i64 (n:Int)),.agg (jc x),.c (.bool rep),.c (.int .i64 deep)] (resV (wad run s[n] n x rep db)):=by
 refine yap [9] zg7 λG hS hA=>?_;clear hA;have hn2:n<db.length:=by rw[h.len];exact hn
 have hR:=h.rows n hn hn2;have c1:=zjh s[n] db[n] x hR.len (zn7 hs h hn hn2 hx);rw[wad,jf hn2];have hrl:(j8 db[n].rows (zt s[n]) x.id x.vals).length<=60:=yaf jcl hR.len;generalize j8 db[n].rows (zt s[n]) x.id x.vals=ids at c1 hrl⊢;by_cases h0:0<ids.length
 ·have h1:(ids.length:Int)>0:=O
  cases rep
  ·rw[if_pos (by simp[h0])];repeat' first|refine X ?_|((first|apply yG|apply yH|apply yI);exact rfl;(first|exact yax ja rfl hn|exact yax jb rfl hn2))|refine yaC (c1) ?_|exact yaF|refine Y ?_ ?_<;>intro _
   exact .ret rfl (Fin.same rfl (zg ([],4) _))
  ·rw[Bool.not_true,ybk,if_neg yah];repeat' first|refine X ?_|((first|apply yG|apply yH|apply yI);exact rfl;(first|exact yax ja rfl hn|exact yax jb rfl hn2))|refine yaC (c1) ?_|exact yaF|refine Y ?_ ?_<;>intro _
   clear c1
   refine Go.keep [0,1,2,5,14,15] (Go.loops (I:=λm fr V=>∃(i:Nat) (k:Int) (db':List Data),m=ids.length-i/\i<=ids.length/\k=i/\(DbG I s db'/\zaa run n ids db=zaa run n (ids.drop i) db')/\
    fr=[(0,.c (.fz (s.map ja))),(1,.c (.fz (db'.map jb))),(2,.c (.int .i64 (n:Int))),(5,.c (.int .i64 deep)),(14,.c (.fz (ids.map encI))),(15,.c (.int .i64 k))]/\V=E G []) ?_ _ _ _ ⟨0,_,db,rfl,yad _,rfl,⟨h,rfl⟩,rfl,rfl⟩)
   rintro m fr V ⟨i,k,db',rfl,hi,hk,⟨hdb,hst⟩,rfl,rfl⟩ hrec;by_cases hlt:i<ids.length
   ·have hn3:n<db'.length:=by rw[hdb.len];exact hn
    have hR3:=hdb.rows n hn hn3;rw[yab hlt,zaa,jf hn3]at hst;have c2:=zai db'[n] ids[i] (yaf hR3.len gb);rcases zl db'[n].rows ids[i]with⟨hx1,hx2⟩|⟨j,hj,hx1,hx2⟩
    ·rw[hx1]at c2;rw[hx2,if_pos (show(none:Option RowD).isNone=true from rfl)]at hst;repeat' first|refine X ?_|((first|apply yG|apply yH|apply yI);exact rfl;(first|exact yax encI hk hlt|exact yax jb rfl hn3))|refine yaC (c2) ?_|exact yaF|refine Y ?_ ?_<;>intro _
     exact Go.keep [0,1,2,5,14,15] (hrec _ _ _ O ⟨i+1,_,db',rfl,hlt,wb hk O,⟨hdb,hst⟩,rfl,rfl⟩)
    ·rw[hx1]at c2;rw[hx2,if_neg (show¬(some db'[n].rows[j]).isNone=true from yah)]at hst;have c3:=hr.del n ids[i] db' db'[n].rows[j] hdb hn (by rw[jf hn3];exact hx2);have hkp:=hr.keeps (.del n ids[i]) db' hdb hn;generalize run (.del n ids[i]) db'=q at c3 hst hkp;by_cases hq:q.2=0
     ·rw[if_pos hq]at hst;rw[jaj hq]at c3;have hkq:=hkp hq;repeat' first|refine X ?_|((first|apply yG|apply yH|apply yI);exact rfl;(first|exact yax encI hk hlt|exact yax jb rfl hn3))|refine yaC (c2) ?_|refine yaC (c3) ?_|exact yaF|refine Y ?_ ?_<;>intro _
      exact Go.keep [0,1,2,5,14,15] (hrec _ _ _ O ⟨i+1,_,q.1,rfl,hlt,wb hk O,⟨hkq,hst⟩,rfl,rfl⟩)
     ·rw[if_neg hq]at hst;obtain⟨e,he⟩:∃e,q.2=e:=⟨_,rfl⟩;rw[he]at hst hq;rw[waf he hq]at c3;rw[hst];repeat' first|refine X ?_|((first|apply yG|apply yH|apply yI);exact rfl;(first|exact yax encI hk hlt|exact yax jb rfl hn3))|refine yaC (c2) ?_|refine yaC (c3) ?_|exact yaF|refine Y ?_ ?_<;>intro _
      exact .ret rfl (Fin.same (jan hq).symm (zg ([],e) _))
   ·rw[yac O,zaa]at hst;rw[hst];repeat' first|refine X ?_|exact yaF|refine Y ?_ ?_<;>intro _
    exact .ret rfl (Fin.same rfl (zg (db',0) _))
 ·have hz:ids=[]:=yal O;subst hz;rw[if_neg gx,zaa];repeat' first|refine X ?_|((first|apply yG|apply yH|apply yI);exact rfl;(first|exact yax ja rfl hn|exact yax jb rfl hn2))|refine yaC (c1) ?_|exact yaF|refine Y ?_ ?_<;>intro _
  apply Go.loop;repeat' first|refine X ?_|exact yaF|refine Y ?_ ?_<;>intro _
  exact .ret rfl (Fin.same rfl (zg (db,0) _))
def jeb(y:Way):List Ce:=[.int .i64 y.act,.bool y.wait,.fz (y.cols.map encI)]
inductive With:Bool->Ce->List Val->Nat->Prop where
 |gone {m:Nat}:With true .nils [] m
 |now {wth:List Val} {m:Nat} (h:m<=wth.length):With false (.fz (wth.map encV)) wth m
theorem With.old{g:Bool}{wv:Ce}{wth:List Val}{m:Nat}(h:With g wv wth m){n:Nat}:∀y∈(AV.c wv).all,Old n y:=by
 cases h with
 |gone=>intro y hy;rw[List.mem_singleton.1 hy];exact .nils
 |now h=>exact w7
theorem wdb{l:List Int}:∀y∈(AV.c (.fz (l.map encI))).all,Old n y:=zj5 λe he x hx=>(jas e he).2 x hx
theorem jl4{y:Way}:∀x∈(AV.c (.fp (jeb y))).all,Old n x:=λx hx=>by
 rw[List.mem_singleton.1 hx];refine .fp _ λj hj=>?_;have hj3:j<3:=hj
 match j,hj3 with
 |0,_=>exact .int _ _
 |1,_=>exact .bool _
 |2,_=>exact wdb (l:=y.cols) _ (by simp[AV.all,jeb])
variable {vs:List Val}{junk:List (List Ce)}{c:Nat}
theorem zcm(hc:c<vs.length)(u w:Val):(vs.map encV++junk).set (0+c) (zj (encV u) 0 (encV w))=(vs.set c w).map encV++junk:=by
 have h1:zj (encV u) 0 (encV w)=encV w:=rfl;rw[h1,Nat.zero_add,List.set_append_left _ _ (by simpa using hc),List.map_set]
theorem way(hc:c<vs.length):(vs.map encV++junk)[0+c]?=some (encV vs[c]):=by
 rw[Nat.zero_add,List.getElem?_append_left (by simpa using hc)];simp[hc]
theorem jgw.at0{P:Program}{f:Nat}{args:List AV}{s:Nat}{ys:List (List Ce)}(h:jgw P f args s ys)(G:wa):Ok P f args (E G []) (Made G s ys):=(h.at_ (E G [])).mono λr V hq=>by
 obtain⟨v,junk,hj,rfl,rfl⟩:=hq;refine⟨v,junk,hj, ?_, ?_⟩
 ·rw[z4]
  rfl
 ·rw[E_E]
  rfl
theorem Go.ext{P:Program}{n0 nt:Nat}{rets:List RV}{R:AV->wa->Prop}{K:List AK}{fr:Fr}{G V:wa}(h:Go P n0 nt rets R K fr V)(e:V=G):Go P n0 nt rets R K fr G:=e▸h
end Go.Proofs.YtedaadaaibofaaaGreat.Am
namespace Go.Proofs.YtedaadaaibofaaaGreat.Am
variable {I:Nat->Int->Prop}

def Done(L:ChL)(n:Nat)(s:List zd)(q:Res)(V:wa)(r:AV)(V':wa):Prop:=r=.c (.int .i64 q.2)/\Kept n V V'/\(q.2=0->∃xs,ww L n s xs q.1 V')
structure jhm(I:Nat->Int->Prop)(L:ChL)(n:Nat)(s:List zd)(run:Chg->List Data->Res)(dp:Int):Prop where
 keeps:zgq I s run
 del:∀(k:Nat) (id:Int) (db:List Data) (xs:List Ce) (V:wa),ww L n s xs db V->DbG I s db->k<s.length->Ok Tryz.prog 281 [.c (.ptr L.c L.vc 0 0),.c (.int .i64 (k:Int)),.c (.int .i64 id),.c (.int .i64 dp)] V (Done L n s (run (.del k id) db) V)
 upd:∀(k:Nat) (id:Int) (vals:List Val) (rep:Bool) (db:List Data) (xs:List Ce) (V:wa),ww L n s xs db V->DbG I s db->zkc s (.upd k id vals rep)->Ok Tryz.prog 283 [.c (.ptr L.c L.vc 0 0),.c (.int .i64 (k:Int)),.c (.int .i64 id),.c (.fz (vals.map encV)),.c (.bool rep),.c (.int .i64 dp)] V (Done L n s (run (.upd k id vals rep) db) V)
set_option maxHeartbeats 1000000 in
theorem zkq{L:ChL}{n:Nat}{s:List zd}{run:Chg->List Data->Res}{deep:Int}(hs:SchG s)(hr:jhm I L n s run (IntKind.i64.wrap (deep+1))){k:Nat}(hk:k<s.length)(id:Int)(vals:List Val)(hl:vals.length=s[k].cols.length)(rep:Bool)(db:List Data)(xs:List Ce)(V:wa)
 (h:ww L n s xs db V) (hdb:DbG I s db):Ok Tryz.prog 237 [.c (.ptr L.c L.vc 0 0),.c (.int .i64 (k:Int)),.c (.int .i64 id),.c (.fz (vals.map encV)),.c (.bool rep),.c (.int .i64 deep)] V (Done L n s (wad run s[k] k ⟨id,vals⟩ rep db) V):=by
 refine Ok.run0 mixed zcg gz λhS hA=>?_;clear hS hA;have hk2:k<db.length:=by rw[hdb.len];exact hk
 have hk3:k<xs.length:=by rw[h.len];exact hk2
 have hR:=hdb.rows k hk hk2;have hK:wnt s[k] db[k] ⟨id,vals⟩:=zn7 hs hdb hk hk2 hl;have c1:=wk8 s[k] db[k].rows id vals (yaf hR.len gb) hK.uniq hK.len hK.own hK.far;rw[wad,jf hk2];have hrl:(j8 db[k].rows (zt s[k]) id vals).length<=60:=yaf jcl hR.len;have hz:=h.frzR hk2 hk3;show Go _ _ _ _ (Done L n s (if(decide (0<(j8 db[k].rows (zt s[k]) id vals).length)&& !rep)=true then([],4)else zaa run k (j8 db[k].rows (zt s[k]) id vals) db) V) _ _ _;generalize j8 db[k].rows (zt s[k]) id vals=ids at c1 hrl⊢;repeat' first|refine X ?_|((first|apply yG|apply yH|apply yI);exact rfl;(first|exact jbv h rfl|exact wcq h rfl|exact wea h rfl rfl rfl hk2|exact zeb h rfl hk3|exact yax ja rfl hk))|exact yaF|refine Y ?_ ?_<;>intro _
 refine Go.scall _ rfl rfl rfl (Lend.fresh (.same (.own hz (.same (.same .nil)))) c1) ?_;rintro r9 V9 ⟨hr9,ht9⟩;rw[hr9,ht9];clear hr9 ht9;by_cases h0:0<ids.length
 ·have h1:(ids.length:Int)>0:=O
  cases rep
  ·rw[if_pos (by simp[h0])];repeat' first|refine X ?_|exact yaF|refine Y ?_ ?_<;>intro _
   exact .ret rfl ⟨rfl,.refl,λh=>by cases h⟩
  ·rw[Bool.not_true,ybk,if_neg yah];repeat' first|refine X ?_|exact yaF|refine Y ?_ ?_<;>intro _
   clear c1 hz
   refine Go.keep [0,1,5,42,43,44] (Go.loops (I:=λm fr V'=>∃(i:Nat) (ki:Int) (db':List Data) (xs':List Ce),m=ids.length-i/\i<=ids.length/\ki=i/\(DbG I s db'/\ww L n s xs' db' V'/\Kept n V V'/\zaa run k ids db=zaa run k (ids.drop i) db')/\
    fr=[(0,.c (.ptr L.c L.vc 0 0)),(1,.c (.int .i64 (k:Int))),(5,.c (.int .i64 deep)),(42,.c (.fz (ids.map encI))),(43,.c (.int .i64 (ids.length:Int))),(44,.c (.int .i64 ki))]) ?_ _ _ _ ⟨0,_,db,xs,rfl,yad _,rfl,⟨hdb,h,.refl,rfl⟩,rfl⟩)
   rintro m fr V1 ⟨i,ki,db',xs',rfl,hi,hki,⟨hdb',hH,hkp,hst⟩,rfl⟩ hrec;by_cases hlt:i<ids.length
   ·have hn3:k<db'.length:=by rw[hdb'.len];exact hk
    have hn4:k<xs'.length:=by rw[hH.len];exact hn3
    have hR3:=hdb'.rows k hk hn3;rw[yab hlt,zaa,jf hn3]at hst;have cf:=jdv hH hn3 hn4 ids[i] hR3.len;rcases zl db'[k].rows ids[i]with⟨hx1,hx2⟩|⟨j,hj,hx1,hx2⟩
    ·rw[hx2,if_pos (show(none:Option RowD).isNone=true from rfl)]at hst;repeat' first|refine X ?_|((first|apply yG|apply yH|apply yI);exact rfl;(first|exact yax encI hki hlt))|exact yaF|refine Y ?_ ?_<;>intro _
     refine .call _ rfl rfl rfl (cf.1 hx2) ?_;rintro r9 V9 ⟨hr9,ht9⟩;rw[hr9,ht9];clear hr9 ht9;repeat' first|refine X ?_|exact yaF|refine Y ?_ ?_<;>intro _
     exact Go.keep [0,1,5,42,43,44] (hrec _ _ _ O ⟨i+1,_,db',xs',rfl,hlt,wb hki O,⟨hdb',hH,hkp,hst⟩,rfl⟩)
    ·rw[hx2,if_neg (show¬(some db'[k].rows[j]).isNone=true from yah)]at hst;obtain⟨lab2,ps2,id2,v2,junk2,hat,hl2⟩:=hH.some hn3 hn4 (Nat.lt_of_le_of_lt (yad _) hj);have c2:=hr.del k ids[i] db' xs' V1 hH hdb' hk;have hkp2:=hr.keeps (.del k ids[i]) db' hdb' hk;generalize run (.del k ids[i]) db'=q at c2 hst hkp2;repeat' first|refine X ?_|((first|apply yG|apply yH|apply yI);exact rfl;(first|exact yax encI hki hlt))|exact yaF|refine Y ?_ ?_<;>intro _
     refine .call _ rfl rfl rfl (cf.2 j hj hx1 _ _ _ _ _ hat) ?_;rintro r9 V9 ⟨hr9,ht9⟩;rw[hr9,ht9];clear hr9 ht9;repeat' first|refine X ?_|exact yaF|refine Y ?_ ?_<;>intro _
     refine .call _ rfl rfl rfl c2 ?_;rintro r9 V2 ⟨hr9,hk9,hq9⟩;rw[hr9];clear hr9;by_cases hq:q.2=0
     ·rw[if_pos hq]at hst;obtain⟨xs2,hH2⟩:=hq9 hq;rw[hq];repeat' first|refine X ?_|exact yaF|refine Y ?_ ?_<;>intro _
      exact Go.keep [0,1,5,42,43,44] (hrec _ _ _ O ⟨i+1,_,q.1,xs2,rfl,hlt,wb hki O,⟨hkp2 hq,hH2,hkp.trans hk9,hst⟩,rfl⟩)
     ·rw[if_neg hq]at hst;rw[hst];generalize q.2=e at hq⊢;repeat' first|refine X ?_|exact yaF|refine Y ?_ ?_<;>intro _
      exact .ret rfl ⟨rfl,hkp.trans hk9,λh=>absurd h hq⟩
   ·rw[yac O,zaa]at hst;rw[hst];repeat' first|refine X ?_|exact yaF|refine Y ?_ ?_<;>intro _
    exact .ret rfl ⟨rfl,hkp,λ_=>⟨xs',hH⟩⟩
 ·have hz:ids=[]:=yal O;subst hz;rw[if_neg gx,zaa];repeat' first|refine X ?_|exact yaF|refine Y ?_ ?_<;>intro _
  apply Go.loop;repeat' first|refine X ?_|exact yaF|refine Y ?_ ?_<;>intro _
  exact .ret rfl ⟨rfl,.refl,λ_=>⟨xs,h⟩⟩
end Go.Proofs.YtedaadaaibofaaaGreat.Am
namespace Go.Proofs.YtedaadaaibofaaaGreat.Am
variable {I:Nat->Int->Prop}

set_option maxHeartbeats 4000000 in
theorem wl4{s:List zd}{run:Chg->List Data->Res}{deep:Int}(hs:SchG s)(hr:weu I s run (IntKind.i64.wrap (deep+1))){n:Nat}(hn:n<s.length)(y:Way)(key wth:List Val)(gone:Bool)(wv:Ce)(hw:With gone wv wth y.cols.length)(hwv:∀v∈wth,ju v=true)
 (hc:InR y.cols s[n].cols.length) (hcl:y.cols.length<=34359738368) (db:List Data) (h:DbG I s db):
 Pure Tryz.prog 365 [.c (.fz (s.map ja)),.c (.fz (db.map jb)),.c (.int .i64 (n:Int)),.agg (jeb y),.c (.fz (key.map encV)),.c wv,.c (.bool gone),.c (.int .i64 deep)] (resV (wag run n y key wth gone (zad (jv db n) y.cols key) db)):=by
 refine yap [11] wh8 λG hS hA=>?_;clear hA;have hn2:n<db.length:=by rw[h.len];exact hn
 have hR:=h.rows n hn hn2;have c1:=jgo db[n] y.cols key (yaf hR.len gb) hcl (λr hr2=>by rw[(hR.fit r hr2).1];exact hc);rw[jf hn2];have hil:(zad db[n].rows y.cols key).length<=60:=by
  rw[zad,yae];exact yaf (ybt _ _) hR.len
 generalize zad db[n].rows y.cols key=ids at c1 hil⊢;have hwo:∀(n:Nat),∀x∈(AV.c wv).all,Old n x:=λn=>hw.old;repeat' first|refine X ?_|((first|apply yG|apply yH|apply yI);exact rfl;(first|exact yax jb rfl hn2))|refine yaC (c1) ?_|exact yaF|refine Y ?_ ?_<;>intro _
 clear c1
 refine Go.keep [0,1,2,4,5,6,7,11,18,19] (Go.loops (I:=λm fr V=>∃(i:Nat) (k:Int) (db':List Data),m=ids.length-i/\i<=ids.length/\k=i/\(DbG I s db'/\wag run n y key wth gone ids db=wag run n y key wth gone (ids.drop i) db')/\
  fr=[(0,.c (.fz (s.map ja))),(1,.c (.fz (db'.map jb))),(2,.c (.int .i64 (n:Int))),(4,.c (.fz (key.map encV))),(5,.c wv),(6,.c (.bool gone)),(7,.c (.int .i64 deep)),(11,.c (.fp (jeb y))),(18,.c (.fz (ids.map encI))),(19,.c (.int .i64 k))]/\V=E G []) ?_ _ _ _ ⟨0,_,db,rfl,yad _,rfl,⟨h,rfl⟩,rfl,rfl⟩)
 rintro m fr V ⟨i,k,db',rfl,hi,hk,⟨hdb,hst⟩,rfl,rfl⟩ hrec;by_cases hlt:i<ids.length
 ·have hn3:n<db'.length:=by rw[hdb.len];exact hn
  have hR3:=hdb.rows n hn hn3;rw[yab hlt,wag,jf hn3]at hst;have c2:=zai db'[n] ids[i] (yaf hR3.len gb);rcases zl db'[n].rows ids[i]with⟨hx1,hx2⟩|⟨j,hj,hx1,hx2⟩
  ·rw[hx1]at c2;rw[hx2]at hst;repeat' first|refine X ?_|((first|apply yG|apply yH|apply yI);exact rfl;(first|exact yax encI hk hlt|exact yax jb rfl hn3))|refine yaC (c2) ?_|exact yaF|refine Y ?_ ?_<;>intro _
   exact Go.keep [0,1,2,4,5,6,7,11,18,19] (hrec _ _ _ O ⟨i+1,_,db',rfl,hlt,wb hk O,⟨hdb,hst⟩,rfl,rfl⟩)
  ·rw[hx1]at c2;rw[hx2]at hst;simp only at hst;have hfit:=hR3.fit _ (yaa hj);have hrow:wav (jv db' n) ids[i]=some db'[n].rows[j]:=by rw[jf hn3];exact hx2
   have hidx:db'[n].rows[j].id=ids[i]:=(z8 hrow).2;have c3:=wbp y.cols db'[n].rows[j].vals hcl (by rw[hfit.1];exact hc);have c4:=zbp (keyF y.cols db'[n].rows[j].vals) key (by rw[wa6];exact hcl);rw[hasB]at hst
   cases hwh:jaf y.cols db'[n].rows[j].vals
   ·rw[hwh,ybi,if_neg yah]at hst;rw[hwh]at c3;repeat' first|refine X ?_|((first|apply yG|apply yH|apply yI);exact rfl;(first|exact yax encI hk hlt|exact yax jb rfl hn3|exact yax jc rfl hj))|refine yaC (c2) ?_|refine yaC (c3) ?_|exact yaF|refine Y ?_ ?_<;>intro _
    exact Go.keep [0,1,2,4,5,6,7,11,18,19] (hrec _ _ _ O ⟨i+1,_,db',rfl,hlt,wb hk O,⟨hdb,hst⟩,rfl,rfl⟩)
   ·rw[hwh,yaz]at hst;rw[hwh]at c3
    cases hke:(keyF y.cols db'[n].rows[j].vals==key)
    ·rw[hke,if_neg yah]at hst;rw[hke]at c4;generalize keyF y.cols db'[n].rows[j].vals=kf at c3 c4;repeat' first|refine X ?_|((first|apply yG|apply yH|apply yI);exact rfl;(first|exact yax encI hk hlt|exact yax jb rfl hn3|exact yax jc rfl hj))|refine yaC (c2) ?_|refine yaC (c3) ?_|refine yaC (c4) ?_|exact yaF|refine Y ?_ ?_<;>intro _
     exact Go.keep [0,1,2,4,5,6,7,11,18,19] (hrec _ _ _ O ⟨i+1,_,db',rfl,hlt,wb hk O,⟨hdb,hst⟩,rfl,rfl⟩)
    ·rw[hke,if_pos rfl]at hst;rw[hke]at c4;generalize keyF y.cols db'[n].rows[j].vals=kf at c3 c4;rw[oneF]at hst;by_cases ha0:y.act=0
     ·rw[if_pos ha0]at hst
      cases hwt:y.wait
      ·rw[hwt,if_neg yah,if_neg gb]at hst;repeat' first|refine X ?_|((first|apply yG|apply yH|apply yI);exact rfl;(first|exact yax encI hk hlt|exact yax jb rfl hn3|exact yax jc rfl hj))|refine yaC (c2) ?_|refine yaC (c3) ?_|refine yaC (c4) ?_|exact yaF|refine Y ?_ ?_<;>intro _
       all_goals first
        |(exfalso;simp_all;done)
        |(rw[hst];exact .ret rfl (Fin.same rfl (zg ([],5) _)))
      ·rw[hwt,if_pos rfl,if_pos rfl]at hst;repeat' first|refine X ?_|((first|apply yG|apply yH|apply yI);exact rfl;(first|exact yax encI hk hlt|exact yax jb rfl hn3|exact yax jc rfl hj))|refine yaC (c2) ?_|refine yaC (c3) ?_|refine yaC (c4) ?_|exact yaF|refine Y ?_ ?_<;>intro _
       all_goals first
        |(exfalso;simp_all;done)
        |exact Go.keep [0,1,2,4,5,6,7,11,18,19] (hrec _ _ _ O ⟨i+1,_,db',rfl,hlt,wb hk O,⟨hdb,hst⟩,rfl,rfl⟩)
     ·rw[if_neg ha0]at hst;by_cases hgo:y.act=1/\gone=true
      ·obtain⟨ha1,rfl⟩:=hgo;rw[if_pos (show y.act=1/\true=true from⟨ha1,rfl⟩)]at hst;have c5:=hr.del n db'[n].rows[j].id db' db'[n].rows[j] hdb hn (by rw[hidx];exact hrow);have hkp:=hr.keeps (.del n db'[n].rows[j].id) db' hdb hn;generalize run (.del n db'[n].rows[j].id) db'=q at c5 hst hkp;by_cases hq:q.2=0
       ·rw[if_pos hq]at hst;rw[jaj hq]at c5;have hkq:=hkp hq;repeat' first|refine X ?_|((first|apply yG|apply yH|apply yI);exact rfl;(first|exact yax encI hk hlt|exact yax jb rfl hn3|exact yax jc rfl hj))|refine yaC (c2) ?_|refine yaC (c3) ?_|refine yaC (c4) ?_|refine yaC (c5) ?_|exact yaF|refine Y ?_ ?_<;>intro _
        exact Go.keep [0,1,2,4,5,6,7,11,18,19] (hrec _ _ _ O ⟨i+1,_,q.1,rfl,hlt,wb hk O,⟨hkq,hst⟩,rfl,rfl⟩)
       ·rw[if_neg hq]at hst;obtain⟨e,he⟩:∃e,q.2=e:=⟨_,rfl⟩;rw[he]at hst hq;rw[waf he hq]at c5;rw[hst];repeat' first|refine X ?_|((first|apply yG|apply yH|apply yI);exact rfl;(first|exact yax encI hk hlt|exact yax jb rfl hn3|exact yax jc rfl hj))|refine yaC (c2) ?_|refine yaC (c3) ?_|refine yaC (c4) ?_|refine yaC (c5) ?_|exact yaF|refine Y ?_ ?_<;>intro _
        exact .ret rfl (Fin.same (jan hq).symm (zg ([],e) _))
      ·rw[if_neg hgo]at hst;have hgo2:y.act=1->gone=false:=λh1=>by
        cases gone
        ·rfl
        ·exact absurd ⟨h1,rfl⟩ hgo
       obtain⟨f3,f4⟩:=zf.1 hfit.2;have hco:=wbq (casc:=y.act==1) (cs:=y.cols) (w:=wth) hwv f4;have hok:zkc s (.upd n db'[n].rows[j].id (zp (y.act==1) y.cols wth db'[n].rows[j].vals) false):=⟨hn,by rw[hco.1];exact hfit.1,zf.2 ⟨by rw[hco.1];exact f3,hco.2⟩⟩;have c5:=hr.upd n db'[n].rows[j].id (zp (y.act==1) y.cols wth db'[n].rows[j].vals) false db' hdb hok;have hkp:=hr.keeps (.upd n db'[n].rows[j].id (zp (y.act==1) y.cols wth db'[n].rows[j].vals) false) db' hdb hok;have cm:=wcl db'[n].rows[j].vals (yaf f3 gb);have hcj:InR y.cols db'[n].rows[j].vals.length:=by rw[hfit.1];exact hc
       generalize run (.upd n db'[n].rows[j].id (zp (y.act==1) y.cols wth db'[n].rows[j].vals) false) db'=q at c5 hst hkp;by_cases ha1:y.act=1
       ·have hg:=hgo2 ha1;subst hg
        cases hw with
        |now hwl=>
        repeat' first|refine X ?_|((first|apply yG|apply yH|apply yI);exact rfl;(first|exact yax encI hk hlt|exact yax jb rfl hn3|exact yax jc rfl hj))|refine yaC (c2) ?_|refine yaC (c3) ?_|refine yaC (c4) ?_|exact yaF|refine Y ?_ ?_<;>intro _
        all_goals first
         |(exfalso;simp_all;done)
         |skip
        refine .call _ rfl rfl rfl (cm.at0 G) ?_;rintro r _ ⟨v,junk,hjk,rfl,rfl⟩;repeat' first|refine X ?_|exact yaF|refine Y ?_ ?_<;>intro _
        refine Go.keep [0,1,2,4,5,6,7,11,18,19,21,26,27] (Go.loops (I:=λm fr V=>∃(a:Nat) (ka:Int) (vs:List Val),m=y.cols.length-a/\a<=y.cols.length/\ka=a/\(vs.length=db'[n].rows[j].vals.length/\zp (y.act==1) y.cols wth db'[n].rows[j].vals=zp (y.act==1) (y.cols.drop a) (wth.drop a) vs)/\
         fr=[(0,.c (.fz (s.map ja))),(1,.c (.fz (db'.map jb))),(2,.c (.int .i64 (n:Int))),(4,.c (.fz (key.map encV))),(5,.c (.fz (wth.map encV))),(6,.c (.bool false)),(7,.c (.int .i64 deep)),(11,.c (.fp (jeb y))),(18,.c (.fz (ids.map encI))),(19,.c (.int .i64 k)),(21,.c (.fp (jc db'[n].rows[j]))),(26,.c (vec (G.next+0) v (db'[n].rows[j].vals.map encV) junk)),(27,.c (.int .i64 ka))]/\V=E G [(v,vs.map encV++junk)]) ?_ _ _ _ ⟨0,_,db'[n].rows[j].vals,rfl,yad _,rfl,⟨rfl,rfl⟩,rfl,rfl⟩)
        rintro m fr V ⟨a,ka,vs,rfl,hai,hka,⟨hvl,hsc⟩,rfl,rfl⟩ hreca;by_cases hlta:a<y.cols.length
        ·clear hrec;have hltw:a<wth.length:=O;obtain⟨q1,q2⟩:=hcj _ (yaa hlta);have hcc:y.cols[a]=(y.cols[a].toNat:Int):=O;have hcv:y.cols[a].toNat<vs.length:=O;have hcm:y.cols[a].toNat<(db'[n].rows[j].vals.map encV).length:=by rw[yae];omega
         have hcv2:y.cols[a].toNat<(vs.set y.cols[a].toNat z6).length:=by rw[yarq];exact hcv
         rw[yab hlta,yab hltw,zp,if_pos (by rw[ha1];rfl),List.tail_cons,List.headD_cons]at hsc;repeat' first|refine X ?_|((first|apply yG|apply yH|apply yI);exact rfl;(first|exact yax encI hka hlta|exact z9 (k:=0) rfl rfl hcc hcm rfl (way hcv) rfl|exact jm (k:=0) rfl rfl rfl rfl (way hcv) rfl gz))|exact yaF|refine Y ?_ ?_<;>intro _
         have hset1:List.set [(v,vs.map encV++junk)] 0 (v,(vs.map encV++junk).set (0+y.cols[a].toNat) (zj (encV vs[y.cols[a].toNat]) 0 [.int .i64 0,.int .i64 0,.str []]))=[(v,(vs.set y.cols[a].toNat z6).map encV++junk)]:=congrArg (λz=>[(v,z)]) (zcm hcv _ z6);rw[hset1];repeat' first|refine X ?_|((first|apply yG|apply yH|apply yI);exact rfl;(first|exact yax encI hka hlta|exact yax encV hka hltw|exact z9 (k:=0) rfl rfl hcc hcm rfl (way hcv2) rfl|exact jm (k:=0) rfl rfl rfl rfl (way hcv2) rfl gz))|exact yaF|refine Y ?_ ?_<;>intro _
         refine Go.keep [0,1,2,4,5,6,7,11,18,19,21,26,27] (hreca _ _ _ O ⟨a+1,_,(vs.set y.cols[a].toNat z6).set y.cols[a].toNat wth[a],rfl,hlta,wb hka O,⟨by rw[yarq,yarq];exact hvl,by rw[hsc,List.set_set]⟩,rfl, ?_⟩);exact congrArg (E G) (congrArg (λz=>[(v,z)]) (zcm hcv2 _ wth[a]))
        ·clear hreca;rw[yac (show y.cols.length<=a by omega),zp]at hsc;rw[hsc]at c5;repeat' first|refine X ?_|exact yaF|refine Y ?_ ?_<;>intro _
         have hvv:vec (G.next+0) v (db'[n].rows[j].vals.map encV) junk=vec (G.next+0) v (vs.map encV) junk:=by rw[vec,vec,yae,yae,hvl]
         refine Go.freezeN (l:=[]) (m:=[(v,vs.map encV++junk)]) (fr':=[(0,.c (.fz (s.map ja))),(1,.c (.fz (db'.map jb))),(2,.c (.int .i64 (n:Int))),(4,.c (.fz (key.map encV))),(5,.c (.fz (wth.map encV))),(6,.c (.bool false)),(7,.c (.int .i64 deep)),(11,.c (.fp (jeb y))),(18,.c (.fz (ids.map encI))),(19,.c (.int .i64 k)),(111,.c (.fz (s.map ja))),(112,.c (.fz (db'.map jb))),(113,.c (.int .i64 (n:Int))),(115,.c (.int .i64 db'[n].rows[j].id)),(116,.c (.fz (vs.map encV))),(118,.c (.int .i64 (IntKind.i64.wrap (deep+1))))]) hS (λb hb=>by cases hb) (yai _)
          (.frz rfl (.refl wa7) (.frz rfl (.refl jbj) (.frz rfl (.refl ja1) (.frz rfl (.refl w7) (.frz rfl (.refl (hwo _)) (.frz rfl (.refl wmy) (.frz rfl (.refl ja1) (.frz rfl (.refl jl4) (.frz rfl (.refl wdb) (.frz rfl (.refl ja1) (.frz rfl (.refl wa7) (.frz rfl (.refl jbj) (.frz rfl (.refl ja1) (.frz rfl (.refl ja1) (.frz rfl (by rw[hvv];exact zb6 (k:=0) rfl (yai _)) (.frz rfl (.refl ja1) .nil)))))))))))))))) ?_
         by_cases hq:q.2=0
         ·rw[if_pos hq]at hst;rw[jaj hq]at c5;have hkq:=hkp hq;repeat' first|refine X ?_|refine yaC (c5) ?_|exact yaF|refine Y ?_ ?_<;>intro _
          exact Go.keep [0,1,2,4,5,6,7,11,18,19] (hrec _ _ _ O ⟨i+1,_,q.1,rfl,hlt,wb hk O,⟨hkq,hst⟩,rfl,rfl⟩)
         ·rw[if_neg hq]at hst;obtain⟨e,he⟩:∃e,q.2=e:=⟨_,rfl⟩;rw[he]at hst hq;rw[waf he hq]at c5;rw[hst];repeat' first|refine X ?_|refine yaC (c5) ?_|exact yaF|refine Y ?_ ?_<;>intro _
          exact .ret rfl (Fin.same (jan hq).symm (zg ([],e) _))
       ·repeat' first|refine X ?_|((first|apply yG|apply yH|apply yI);exact rfl;(first|exact yax encI hk hlt|exact yax jb rfl hn3|exact yax jc rfl hj))|refine yaC (c2) ?_|refine yaC (c3) ?_|refine yaC (c4) ?_|exact yaF|refine Y ?_ ?_<;>intro _
        all_goals first
         |(exfalso;simp_all;done)
         |skip
        refine .call _ rfl rfl rfl (cm.at0 G) ?_;rintro r _ ⟨v,junk,hjk,rfl,rfl⟩;repeat' first|refine X ?_|exact yaF|refine Y ?_ ?_<;>intro _
        refine Go.keep [0,1,2,4,5,6,7,11,18,19,21,26,27] (Go.loops (I:=λm fr V=>∃(a:Nat) (ka:Int) (vs:List Val),m=y.cols.length-a/\a<=y.cols.length/\ka=a/\(vs.length=db'[n].rows[j].vals.length/\zp (y.act==1) y.cols wth db'[n].rows[j].vals=zp (y.act==1) (y.cols.drop a) (wth.drop a) vs)/\
         fr=[(0,.c (.fz (s.map ja))),(1,.c (.fz (db'.map jb))),(2,.c (.int .i64 (n:Int))),(4,.c (.fz (key.map encV))),(5,.c (wv)),(6,.c (.bool gone)),(7,.c (.int .i64 deep)),(11,.c (.fp (jeb y))),(18,.c (.fz (ids.map encI))),(19,.c (.int .i64 k)),(21,.c (.fp (jc db'[n].rows[j]))),(26,.c (vec (G.next+0) v (db'[n].rows[j].vals.map encV) junk)),(27,.c (.int .i64 ka))]/\V=E G [(v,vs.map encV++junk)]) ?_ _ _ _ ⟨0,_,db'[n].rows[j].vals,rfl,yad _,rfl,⟨rfl,rfl⟩,rfl,rfl⟩)
        rintro m fr V ⟨a,ka,vs,rfl,hai,hka,⟨hvl,hsc⟩,rfl,rfl⟩ hreca;by_cases hlta:a<y.cols.length
        ·clear hrec;obtain⟨q1,q2⟩:=hcj _ (yaa hlta);have hcc:y.cols[a]=(y.cols[a].toNat:Int):=O;have hcv:y.cols[a].toNat<vs.length:=O;have hcm:y.cols[a].toNat<(db'[n].rows[j].vals.map encV).length:=by rw[yae];omega
         have hcv2:y.cols[a].toNat<(vs.set y.cols[a].toNat z6).length:=by rw[yarq];exact hcv
         rw[yab hlta,zp,if_neg (by rw[beq_iff_eq];exact ha1),List.tail_drop]at hsc;repeat' first|refine X ?_|((first|apply yG|apply yH|apply yI);exact rfl;(first|exact yax encI hka hlta|exact z9 (k:=0) rfl rfl hcc hcm rfl (way hcv) rfl|exact jm (k:=0) rfl rfl rfl rfl (way hcv) rfl gz))|exact yaF|refine Y ?_ ?_<;>intro _
         refine Go.keep [0,1,2,4,5,6,7,11,18,19,21,26,27] (hreca _ _ _ O ⟨a+1,_,vs.set y.cols[a].toNat z6,rfl,hlta,wb hka O,⟨by rw[yarq];exact hvl,hsc⟩,rfl, ?_⟩);exact congrArg (E G) (congrArg (λz=>[(v,z)]) (zcm hcv _ z6))
        ·clear hreca;rw[yac (show y.cols.length<=a by omega),zp]at hsc;rw[hsc]at c5;repeat' first|refine X ?_|exact yaF|refine Y ?_ ?_<;>intro _
         have hvv:vec (G.next+0) v (db'[n].rows[j].vals.map encV) junk=vec (G.next+0) v (vs.map encV) junk:=by rw[vec,vec,yae,yae,hvl]
         refine Go.freezeN (l:=[]) (m:=[(v,vs.map encV++junk)]) (fr':=[(0,.c (.fz (s.map ja))),(1,.c (.fz (db'.map jb))),(2,.c (.int .i64 (n:Int))),(4,.c (.fz (key.map encV))),(5,.c (wv)),(6,.c (.bool gone)),(7,.c (.int .i64 deep)),(11,.c (.fp (jeb y))),(18,.c (.fz (ids.map encI))),(19,.c (.int .i64 k)),(111,.c (.fz (s.map ja))),(112,.c (.fz (db'.map jb))),(113,.c (.int .i64 (n:Int))),(115,.c (.int .i64 db'[n].rows[j].id)),(116,.c (.fz (vs.map encV))),(118,.c (.int .i64 (IntKind.i64.wrap (deep+1))))]) hS (λb hb=>by cases hb) (yai _)
          (.frz rfl (.refl wa7) (.frz rfl (.refl jbj) (.frz rfl (.refl ja1) (.frz rfl (.refl w7) (.frz rfl (.refl (hwo _)) (.frz rfl (.refl wmy) (.frz rfl (.refl ja1) (.frz rfl (.refl jl4) (.frz rfl (.refl wdb) (.frz rfl (.refl ja1) (.frz rfl (.refl wa7) (.frz rfl (.refl jbj) (.frz rfl (.refl ja1) (.frz rfl (.refl ja1) (.frz rfl (by rw[hvv];exact zb6 (k:=0) rfl (yai _)) (.frz rfl (.refl ja1) .nil)))))))))))))))) ?_
         by_cases hq:q.2=0
         ·rw[if_pos hq]at hst;rw[jaj hq]at c5;have hkq:=hkp hq;repeat' first|refine X ?_|refine yaC (c5) ?_|exact yaF|refine Y ?_ ?_<;>intro _
          exact Go.keep [0,1,2,4,5,6,7,11,18,19] (hrec _ _ _ O ⟨i+1,_,q.1,rfl,hlt,wb hk O,⟨hkq,hst⟩,rfl,rfl⟩)
         ·rw[if_neg hq]at hst;obtain⟨e,he⟩:∃e,q.2=e:=⟨_,rfl⟩;rw[he]at hst hq;rw[waf he hq]at c5;rw[hst];repeat' first|refine X ?_|refine yaC (c5) ?_|exact yaF|refine Y ?_ ?_<;>intro _
          exact .ret rfl (Fin.same (jan hq).symm (zg ([],e) _))
 ·rw[yac O,wag]at hst;rw[hst];repeat' first|refine X ?_|exact yaF|refine Y ?_ ?_<;>intro _
  exact .ret rfl (Fin.same rfl (zg (db',0) _))
end Go.Proofs.YtedaadaaibofaaaGreat.Am
namespace Go.Proofs.YtedaadaaibofaaaGreat.Am
variable {I:Nat->Int->Prop}

theorem zat(vals:List Val)(h0:vals≠[])(hx:vals.length<=34359738368)(G:wa):Ok Tryz.prog 85 [.c (.fz (vals.map encV))] G (Made G 3 (vals.map encV)):=
 (jmn mixed jcv (vals.map encV) lens (by rw[yae];omega) G).mono λr V h=>by
   rcases h with⟨h,_⟩|h
   ·exact absurd (List.map_eq_nil_iff.1 h) h0
   ·exact h
set_option maxHeartbeats 4000000 in
theorem jm5{L:ChL}{n:Nat}{s:List zd}{run:Chg->List Data->Res}{deep:Int}(hs:SchG s)(hr:jhm I L n s run (IntKind.i64.wrap (deep+1))){k:Nat}(hk:k<s.length)(r:RowD)(rv:Ce)(f:Fk)(wth:List Val)(gone:Bool)(wv:Ce)(hw:With gone wv wth f.cols.length)(hwv:∀v∈wth,ju v=true)(hw0:0<f.cols.length)(hcl:f.cols.length<=34359738368)
 (hc:InR f.cols s[k].cols.length) (db:List Data) (xs:List Ce) (V:wa) (h:ww L n s xs db V) (hdb:DbG I s db) (hrk:r∈jv db k) (hvl:Vl V r.vals rv):
 Ok Tryz.prog 372 [.c (.ptr L.c L.vc 0 0),.c (.int .i64 (k:Int)),.agg [.int .i64 r.id,rv],.agg (j3 f),.c wv,.c (.int .i64 deep)] V (Done L n s (oneF run k (wc5 f gone) wth gone r db) V):=by
 refine Ok.run0 mixed zch gz λhS hA=>?_;clear hA;have hk2:k<db.length:=by rw[hdb.len];exact hk
 have hR:=hdb.at hk;have hfit:=hR.fit _ hrk;have ht:=hs.tab _ (yaa hk);have hv0:r.vals≠[]:=λh0=>by
  have h1:=hfit.1;rw[h0]at h1;have:=ht.cols0;simp at h1;omega
 obtain⟨f3,f4⟩:=zf.1 hfit.2;have cm:=Lend.made (.own hvl.frz .nil) (zat r.vals hv0 (yaf f3 gb)) λe he=>(jcq e he).2;have hcj:InR f.cols r.vals.length:=by rw[hfit.1];exact hc
 rw[oneF]
 cases hw with
 |gone=>
  show Go _ _ _ _ (Done L n s (if f.onDelete=0 then(if f.deferred=true then(db,0)else([],5))else if f.onDelete=1/\true=true then run (.del k r.id) db else run (.upd k r.id (zp (f.onDelete==1) f.cols [] r.vals) false) db) V) _ _ _;repeat' first|refine X ?_|exact yaF|refine Y ?_ ?_<;>intro _
  refine .call _ rfl rfl rfl cm ?_;rintro q _ ⟨v,junk,hjk,rfl,rfl⟩;by_cases h0:f.onDelete=0
  ·rw[if_pos h0]
   cases hd:f.deferred
   ·rw[if_neg yah];repeat' first|refine X ?_|exact yaF|refine Y ?_ ?_<;>intro _
    all_goals first
     |(exfalso;simp_all;done)
     |exact .ret rfl ⟨rfl,.grow h _,λh=>by cases h⟩
   ·rw[if_pos rfl];repeat' first|refine X ?_|exact yaF|refine Y ?_ ?_<;>intro _
    all_goals first
     |(exfalso;simp_all;done)
     |exact .ret rfl ⟨rfl,.grow h _,λ_=>⟨xs,h.grow _⟩⟩
  ·rw[if_neg h0];by_cases h1:f.onDelete=1
   ·rw[if_pos ⟨h1,rfl⟩];have c5:=hr.del k r.id db xs _ (h.grow [(v,r.vals.map encV++junk)]) hdb hk;repeat' first|refine X ?_|exact yaF|refine Y ?_ ?_<;>intro _
    refine .call _ rfl rfl rfl c5 ?_;rintro r9 V9 ⟨rfl,hk9,hq9⟩;repeat' first|refine X ?_|exact yaF|refine Y ?_ ?_<;>intro _
    exact .ret rfl ⟨rfl,(Kept.grow h _).trans hk9,hq9⟩
   ·rw[if_neg (λhh=>h1 hh.1),beq_eq_false_iff_ne.2 h1];obtain⟨wth,hwe⟩:∃wth:List Val,wth=[]:=⟨_,rfl⟩;rw[<-hwe]at hwv⊢;have hco:=wbq (casc:=false) (cs:=f.cols) (w:=wth) hwv f4;have hok:zkc s (.upd k r.id (zp false f.cols wth r.vals) false):=⟨hk,by rw[hco.1];exact hfit.1,zf.2 ⟨by rw[hco.1];exact f3,hco.2⟩⟩;have c5:=hr.upd k r.id (zp false f.cols wth r.vals) false db xs V h hdb hok;generalize run (.upd k r.id (zp false f.cols wth r.vals) false) db=q at c5⊢;repeat' first|refine X ?_|exact yaF|refine Y ?_ ?_<;>intro _
    refine Go.keep [0,1,5,8,14,29,30,31] (Go.loops (I:=λm fr V'=>∃(a:Nat) (ka:Int) (vs:List Val),m=f.cols.length-a/\a<=f.cols.length/\ka=a/\(vs.length=r.vals.length/\zp (false) f.cols wth r.vals=zp (false) (f.cols.drop a) (wth.drop a) vs)/\
     fr=[(0,.c (.ptr L.c L.vc 0 0)),(1,.c (.int .i64 (k:Int))),(5,.c (.int .i64 deep)),(8,.c (.fp [.int .i64 r.id,rv])),(14,.c (vec (V.next+0) v (r.vals.map encV) junk)),(29,.c (.fz (f.cols.map encI))),(30,.c (.int .i64 (f.cols.length:Int))),(31,.c (.int .i64 ka))]/\V'=E V [(v,vs.map encV++junk)]) ?_ _ _ _ ⟨0,_,r.vals,rfl,yad _,rfl,⟨rfl,rfl⟩,rfl,rfl⟩)
    rintro m fr V' ⟨a,ka,vs,rfl,hai,hka,⟨hvl,hsc⟩,rfl,rfl⟩ hreca;by_cases hlta:a<f.cols.length
    ·obtain⟨q1,q2⟩:=hcj _ (yaa hlta);have hcc:f.cols[a]=(f.cols[a].toNat:Int):=O;have hcv:f.cols[a].toNat<vs.length:=O;have hcm:f.cols[a].toNat<(r.vals.map encV).length:=by rw[yae];omega
     rw[yab hlta,zp,if_neg yah,List.tail_drop]at hsc;repeat' first|refine X ?_|((first|apply yG|apply yH|apply yI);exact rfl;(first|exact yax encI hka hlta|exact z9 (k:=0) rfl rfl hcc hcm rfl (way hcv) rfl|exact jm (k:=0) rfl rfl rfl rfl (way hcv) rfl gz))|exact yaF|refine Y ?_ ?_<;>intro _
     refine Go.keep [0,1,5,8,14,29,30,31] (hreca _ _ _ O ⟨a+1,_,vs.set f.cols[a].toNat z6,rfl,hlta,wb hka O,⟨by rw[yarq];exact hvl,hsc⟩,rfl, ?_⟩);exact congrArg (E V) (congrArg (λz=>[(v,z)]) (zcm hcv _ z6))
    ·clear hreca;rw[yac (show f.cols.length<=a by omega),zp]at hsc;rw[hsc]at c5;repeat' first|refine X ?_|exact yaF|refine Y ?_ ?_<;>intro _
     have hvv:vec (V.next+0) v (r.vals.map encV) junk=vec (V.next+0) v (vs.map encV) junk:=by rw[vec,vec,yae,yae,hvl]
     refine Go.freezeN (l:=[]) (m:=[(v,vs.map encV++junk)]) (fr':=[(83,.c (.ptr L.c L.vc 0 0)),(84,.c (.int .i64 (k:Int))),(86,.c (.int .i64 r.id)),(87,.c (.fz (vs.map encV))),(89,.c (.int .i64 (IntKind.i64.wrap (deep+1))))]) hS (λb hb=>by cases hb) (yai _)
      (.frz rfl (.refl (wdt h.lc)) (.frz rfl (.refl ja1) (.frz rfl (.refl ja1) (.frz rfl (by rw[hvv];exact zb6 (k:=0) rfl (yai _)) (.frz rfl (.refl ja1) .nil))))) ?_
     rw[zdm hS];refine .call _ rfl rfl rfl c5 ?_;rintro r9 V9 ⟨rfl,hk9,hq9⟩;repeat' first|refine X ?_|exact yaF|refine Y ?_ ?_<;>intro _
     exact .ret rfl ⟨rfl,hk9,hq9⟩
 |now hwl=>
  show Go _ _ _ _ (Done L n s (if f.onUpdate=0 then(if f.deferred=true then(db,0)else([],5))else if f.onUpdate=1/\false=true then run (.del k r.id) db else run (.upd k r.id (zp (f.onUpdate==1) f.cols wth r.vals) false) db) V) _ _ _;obtain⟨w0,w,rfl⟩:∃w0 w,wth=w0::w:=by
   cases wth with
   |nil=>
    have h2:f.cols.length<=0:=hwl;omega
   |cons a b=>exact⟨a,b,rfl⟩
  repeat' first|refine X ?_|exact yaF|refine Y ?_ ?_<;>intro _
  refine .call _ rfl rfl rfl cm ?_;rintro q _ ⟨v,junk,hjk,rfl,rfl⟩;by_cases h0:f.onUpdate=0
  ·rw[if_pos h0]
   cases hd:f.deferred
   ·rw[if_neg yah];repeat' first|refine X ?_|exact yaF|refine Y ?_ ?_<;>intro _
    all_goals first
     |(exfalso;simp_all;done)
     |exact .ret rfl ⟨rfl,.grow h _,λh=>by cases h⟩
   ·rw[if_pos rfl];repeat' first|refine X ?_|exact yaF|refine Y ?_ ?_<;>intro _
    all_goals first
     |(exfalso;simp_all;done)
     |exact .ret rfl ⟨rfl,.grow h _,λ_=>⟨xs,h.grow _⟩⟩
  ·rw[if_neg h0,if_neg (λhh=>yah hh.2)];by_cases h1:f.onUpdate=1
   ·rw[beq_iff_eq.2 h1];have hco:=wbq (casc:=true) (cs:=f.cols) (w:=w0::w) hwv f4;have hok:zkc s (.upd k r.id (zp true f.cols (w0::w) r.vals) false):=⟨hk,by rw[hco.1];exact hfit.1,zf.2 ⟨by rw[hco.1];exact f3,hco.2⟩⟩;have c5:=hr.upd k r.id (zp true f.cols (w0::w) r.vals) false db xs V h hdb hok;generalize run (.upd k r.id (zp true f.cols (w0::w) r.vals) false) db=q at c5⊢;repeat' first|refine X ?_|exact yaF|refine Y ?_ ?_<;>intro _
    refine Go.keep [0,1,4,5,8,14,68,69,70] (Go.loops (I:=λm fr V'=>∃(a:Nat) (ka:Int) (vs:List Val),m=f.cols.length-a/\a<=f.cols.length/\ka=a/\(vs.length=r.vals.length/\zp (true) f.cols (w0::w) r.vals=zp (true) (f.cols.drop a) ((w0::w).drop a) vs)/\
     fr=[(0,.c (.ptr L.c L.vc 0 0)),(1,.c (.int .i64 (k:Int))),(4,.c (.fz ((w0::w).map encV))),(5,.c (.int .i64 deep)),(8,.c (.fp [.int .i64 r.id,rv])),(14,.c (vec (V.next+0) v (r.vals.map encV) junk)),(68,.c (.fz (f.cols.map encI))),(69,.c (.int .i64 (f.cols.length:Int))),(70,.c (.int .i64 ka))]/\V'=E V [(v,vs.map encV++junk)]) ?_ _ _ _ ⟨0,_,r.vals,rfl,yad _,rfl,⟨rfl,rfl⟩,rfl,rfl⟩)
    rintro m fr V' ⟨a,ka,vs,rfl,hai,hka,⟨hvl,hsc⟩,rfl,rfl⟩ hreca;by_cases hlta:a<f.cols.length
    ·have hltw:a<(w0::w).length:=O;obtain⟨q1,q2⟩:=hcj _ (yaa hlta);have hcc:f.cols[a]=(f.cols[a].toNat:Int):=O;have hcv:f.cols[a].toNat<vs.length:=O;have hcm:f.cols[a].toNat<(r.vals.map encV).length:=by rw[yae];omega
     rw[yab hlta,yab hltw,zp,if_pos rfl,List.tail_cons,List.headD_cons]at hsc;repeat' first|refine X ?_|((first|apply yG|apply yH|apply yI);exact rfl;(first|exact yax encI hka hlta|exact yax encV hka hltw|exact z9 (k:=0) rfl rfl hcc hcm rfl (way hcv) rfl|exact jm (k:=0) rfl rfl rfl rfl (way hcv) rfl gz))|exact yaF|refine Y ?_ ?_<;>intro _
     refine Go.keep [0,1,4,5,8,14,68,69,70] (hreca _ _ _ O ⟨a+1,_,vs.set f.cols[a].toNat (w0::w)[a],rfl,hlta,wb hka O,⟨by rw[yarq];exact hvl,hsc⟩,rfl, ?_⟩);exact congrArg (E V) (congrArg (λz=>[(v,z)]) (zcm hcv _ (w0::w)[a]))
    ·clear hreca;rw[yac (show f.cols.length<=a by omega),zp]at hsc;rw[hsc]at c5;repeat' first|refine X ?_|exact yaF|refine Y ?_ ?_<;>intro _
     have hvv:vec (V.next+0) v (r.vals.map encV) junk=vec (V.next+0) v (vs.map encV) junk:=by rw[vec,vec,yae,yae,hvl]
     refine Go.freezeN (l:=[]) (m:=[(v,vs.map encV++junk)]) (fr':=[(83,.c (.ptr L.c L.vc 0 0)),(84,.c (.int .i64 (k:Int))),(86,.c (.int .i64 r.id)),(87,.c (.fz (vs.map encV))),(89,.c (.int .i64 (IntKind.i64.wrap (deep+1))))]) hS (λb hb=>by cases hb) (yai _)
      (.frz rfl (.refl (wdt h.lc)) (.frz rfl (.refl ja1) (.frz rfl (.refl ja1) (.frz rfl (by rw[hvv];exact zb6 (k:=0) rfl (yai _)) (.frz rfl (.refl ja1) .nil))))) ?_
     rw[zdm hS];refine .call _ rfl rfl rfl c5 ?_;rintro r9 V9 ⟨rfl,hk9,hq9⟩;repeat' first|refine X ?_|exact yaF|refine Y ?_ ?_<;>intro _
     exact .ret rfl ⟨rfl,hk9,hq9⟩
   ·rw[beq_eq_false_iff_ne.2 h1];obtain⟨wth,hwe⟩:∃wth:List Val,wth=w0::w:=⟨_,rfl⟩;have hco:=wbq (casc:=false) (cs:=f.cols) (w:=w0::w) hwv f4;have hok:zkc s (.upd k r.id (zp false f.cols (w0::w) r.vals) false):=⟨hk,by rw[hco.1];exact hfit.1,zf.2 ⟨by rw[hco.1];exact f3,hco.2⟩⟩;have c5:=hr.upd k r.id (zp false f.cols (w0::w) r.vals) false db xs V h hdb hok;generalize run (.upd k r.id (zp false f.cols (w0::w) r.vals) false) db=q at c5⊢;rw[<-hwe]at c5;repeat' first|refine X ?_|exact yaF|refine Y ?_ ?_<;>intro _
    refine Go.keep [0,1,5,8,14,29,30,31] (Go.loops (I:=λm fr V'=>∃(a:Nat) (ka:Int) (vs:List Val),m=f.cols.length-a/\a<=f.cols.length/\ka=a/\(vs.length=r.vals.length/\zp (false) f.cols wth r.vals=zp (false) (f.cols.drop a) (wth.drop a) vs)/\
     fr=[(0,.c (.ptr L.c L.vc 0 0)),(1,.c (.int .i64 (k:Int))),(5,.c (.int .i64 deep)),(8,.c (.fp [.int .i64 r.id,rv])),(14,.c (vec (V.next+0) v (r.vals.map encV) junk)),(29,.c (.fz (f.cols.map encI))),(30,.c (.int .i64 (f.cols.length:Int))),(31,.c (.int .i64 ka))]/\V'=E V [(v,vs.map encV++junk)]) ?_ _ _ _ ⟨0,_,r.vals,rfl,yad _,rfl,⟨rfl,rfl⟩,rfl,rfl⟩)
    rintro m fr V' ⟨a,ka,vs,rfl,hai,hka,⟨hvl,hsc⟩,rfl,rfl⟩ hreca;by_cases hlta:a<f.cols.length
    ·obtain⟨q1,q2⟩:=hcj _ (yaa hlta);have hcc:f.cols[a]=(f.cols[a].toNat:Int):=O;have hcv:f.cols[a].toNat<vs.length:=O;have hcm:f.cols[a].toNat<(r.vals.map encV).length:=by rw[yae];omega
     rw[yab hlta,zp,if_neg yah,List.tail_drop]at hsc;repeat' first|refine X ?_|((first|apply yG|apply yH|apply yI);exact rfl;(first|exact yax encI hka hlta|exact z9 (k:=0) rfl rfl hcc hcm rfl (way hcv) rfl|exact jm (k:=0) rfl rfl rfl rfl (way hcv) rfl gz))|exact yaF|refine Y ?_ ?_<;>intro _
     refine Go.keep [0,1,5,8,14,29,30,31] (hreca _ _ _ O ⟨a+1,_,vs.set f.cols[a].toNat z6,rfl,hlta,wb hka O,⟨by rw[yarq];exact hvl,hsc⟩,rfl, ?_⟩);exact congrArg (E V) (congrArg (λz=>[(v,z)]) (zcm hcv _ z6))
    ·clear hreca;rw[yac (show f.cols.length<=a by omega),zp]at hsc;rw[hsc]at c5;repeat' first|refine X ?_|exact yaF|refine Y ?_ ?_<;>intro _
     have hvv:vec (V.next+0) v (r.vals.map encV) junk=vec (V.next+0) v (vs.map encV) junk:=by rw[vec,vec,yae,yae,hvl]
     refine Go.freezeN (l:=[]) (m:=[(v,vs.map encV++junk)]) (fr':=[(83,.c (.ptr L.c L.vc 0 0)),(84,.c (.int .i64 (k:Int))),(86,.c (.int .i64 r.id)),(87,.c (.fz (vs.map encV))),(89,.c (.int .i64 (IntKind.i64.wrap (deep+1))))]) hS (λb hb=>by cases hb) (yai _)
      (.frz rfl (.refl (wdt h.lc)) (.frz rfl (.refl ja1) (.frz rfl (.refl ja1) (.frz rfl (by rw[hvv];exact zb6 (k:=0) rfl (yai _)) (.frz rfl (.refl ja1) .nil))))) ?_
     rw[zdm hS];refine .call _ rfl rfl rfl c5 ?_;rintro r9 V9 ⟨rfl,hk9,hq9⟩;repeat' first|refine X ?_|exact yaF|refine Y ?_ ?_<;>intro _
     exact .ret rfl ⟨rfl,hk9,hq9⟩
end Go.Proofs.YtedaadaaibofaaaGreat.Am
namespace Go.Proofs.YtedaadaaibofaaaGreat.Am
variable {I:Nat->Int->Prop}

theorem jcm{fr:Fr}{G:wa}{x y:Opd}{a b:List UInt8}{v:Bool}(hx:x.ev fr=some (.c (.str a)))(hy:y.ev fr=some (.c (.str b)))(h:(a !=b)=v):aop (.bin .neq x y) fr G=some (.c (.bool v),G):=by
 simp[aop,hx,hy,binA,h]
theorem wnv(f:Fk)(gone:Bool):jeb (wc5 f gone)=[.int .i64 (if gone then f.onDelete else f.onUpdate),.bool f.deferred,.fz (f.cols.map encI)]:=rfl
set_option maxHeartbeats 4000000 in
theorem wcm{s:List zd}{run:Chg->List Data->Res}{deep:Int}(hs:SchG s)(hr:weu I s run (IntKind.i64.wrap (deep+1))){n:Nat}(hn:n<s.length)(key wth:List Val)(gone:Bool)(wv:Ce)(hw:With gone wv wth s[n].key.length)(hwv:∀v∈wth,ju v=true)
 (db:List Data) (h:DbG I s db):
 Pure Tryz.prog 327 [.c (.fz (s.map ja)),.c (.fz (db.map jb)),.c (.int .i64 (n:Int)),.c (.fz (key.map encV)),.c wv,.c (.bool gone),.c (.int .i64 deep)] (resV (jz run s n key wth gone db)):=by
 refine yap [] jeo λG hS hA=>?_;clear hA;have hwo:∀(n:Nat),∀x∈(AV.c wv).all,Old n x:=λn=>hw.old;have hs5:=hs.few;rw[jz,zr hn];repeat' first|refine X ?_|exact yaF|refine Y ?_ ?_<;>intro _
 refine Go.keep [0,1,2,3,4,5,6,16] (Go.loops (I:=λm fr V=>∃(i:Nat) (k:Int) (db':List Data),m=s.length-i/\i<=s.length/\k=i/\(DbG I s db'/\zam run s[n].name key wth gone 0 s db=zam run s[n].name key wth gone i (s.drop i) db')/\
  fr=[(0,.c (.fz (s.map ja))),(1,.c (.fz (db'.map jb))),(2,.c (.int .i64 (n:Int))),(3,.c (.fz (key.map encV))),(4,.c wv),(5,.c (.bool gone)),(6,.c (.int .i64 deep)),(16,.c (.int .i64 k))]/\V=E G []) ?_ _ _ _ ⟨0,_,db,rfl,yad _,rfl,⟨h,rfl⟩,rfl,rfl⟩)
 rintro m fr V ⟨i,k,db1,rfl,hi,hk,⟨hdb1,hst⟩,rfl,rfl⟩ hrec;by_cases hlt:i<s.length
 ·rw[yab hlt,zam]at hst;have hti:=hs.tab _ (yaa hlt);have hbi:=hs.big _ (yaa hlt);have hf3:=hti.fk3;repeat' first|refine X ?_|exact yaF|refine Y ?_ ?_<;>intro _
  refine Go.keep [0,1,2,3,4,5,6,16,17] (Go.loops (I:=λm fr V=>∃(j:Nat) (kj:Int) (db':List Data),m=s[i].fks.length-j/\j<=s[i].fks.length/\kj=j/\(DbG I s db'/\zbb run s[n].name i key wth gone s[i].fks db1=zbb run s[n].name i key wth gone (s[i].fks.drop j) db')/\
   fr=[(0,.c (.fz (s.map ja))),(1,.c (.fz (db'.map jb))),(2,.c (.int .i64 (n:Int))),(3,.c (.fz (key.map encV))),(4,.c wv),(5,.c (.bool gone)),(6,.c (.int .i64 deep)),(16,.c (.int .i64 k)),(17,.c (.int .i64 kj))]/\V=E G []) ?_ _ _ _ ⟨0,_,db1,rfl,yad _,rfl,⟨hdb1,rfl⟩,rfl,rfl⟩)
  rintro m fr V ⟨j,kj,db',rfl,hj,hkj,⟨hdb,hsj⟩,rfl,rfl⟩ hrecj;by_cases hltj:j<s[i].fks.length
  ·clear hrec;rw[yab hltj,zbb]at hsj;have hfm:=yaa hltj;by_cases hna:s[i].fks[j].table=s[n].name
   ·have hnb:(s[i].fks[j].table !=s[n].name)=false:=by rw[hna];exact bne_self_eq_false _
    rw[if_pos hna]at hsj;have hmt:=hs.met _ (yaa hlt) _ hfm n hn hna;have hw2:With gone wv wth (wc5 s[i].fks[j] gone).cols.length:=by
     rw[<-hmt]at hw;exact hw
    have c1:=wl4 hs hr hlt (wc5 s[i].fks[j] gone) key wth gone wv hw2 hwv (hti.fk _ hfm) (hbi.2.2.2.2.2.2 _ hfm).1 db' hdb;rw[wnv,<-hk]at c1;have hkp:=jcd (s:=s) hr.keeps hlt (y:=wc5 s[i].fks[j] gone) (key:=key) (wth:=wth) (gone:=gone) hwv (l:=zad (jv db' i) (wc5 s[i].fks[j] gone).cols key) hdb;rw[show s[i].fks[j].cols=(wc5 s[i].fks[j] gone).cols from rfl]at hsj;generalize wag run i (wc5 s[i].fks[j] gone) key wth gone (zad (jv db' i) (wc5 s[i].fks[j] gone).cols key) db'=q at c1 hsj hkp;by_cases hq:q.2=0
    ·rw[if_pos hq]at hsj;rw[jaj hq]at c1;have hkq:=hkp hq
     cases gone
     ·repeat' first|(apply yA;exact rfl)|apply yB|apply yC|((first|apply yD|apply yE);(first|exact yF|assumption);iterate 6 exact rfl)|((first|apply yG|apply yH|apply yI);exact rfl;(first|exact yJ|exact yK rfl rfl|exact yL rfl|exact yM rfl|exact jcm rfl rfl hnb|exact rfl|exact aL rfl rfl rfl rfl rfl|exact aS rfl rfl rfl rfl rfl rfl rfl|exact yax ja hk hlt|exact yax ja rfl hn|exact yax j3 hkj hltj))|((first|apply yN|apply yO|apply yP);exact rfl)|((first|apply yQ|apply yR|apply yS);(iterate 3 exact rfl);exact c1)|exact yaF|(((first|apply yT|apply yU|apply yV|apply yW);exact rfl;(first|exact .d|exact .e|exact .n|((fail_if_success exact bqt);(fail_if_success exact bqf);exact .b)))<;>intro _)
      all_goals first
       |contradiction
       |skip
      exact Go.keep [0,1,2,3,4,5,6,16,17] (hrecj _ _ _ O ⟨j+1,_,q.1,rfl,hltj,wb hkj O,⟨hkq,hsj⟩,rfl,rfl⟩)
     ·repeat' first|(apply yA;exact rfl)|apply yB|apply yC|(apply yE (s:=5);(first|exact yF|assumption);iterate 6 exact rfl)|((first|apply yG|apply yH|apply yI);exact rfl;(first|exact yJ|exact yK rfl rfl|exact yL rfl|exact yM rfl|exact jcm rfl rfl hnb|exact rfl|exact aL rfl rfl rfl rfl rfl|exact aS rfl rfl rfl rfl rfl rfl rfl|exact yax ja hk hlt|exact yax ja rfl hn|exact yax j3 hkj hltj))|((first|apply yN|apply yO|apply yP);exact rfl)|((first|apply yQ|apply yR|apply yS);(iterate 3 exact rfl);exact c1)|exact yaF|(((first|apply yT|apply yU|apply yV|apply yW);exact rfl;(first|exact .d|exact .e|exact .n|((fail_if_success exact bqt);(fail_if_success exact bqf);exact .b)))<;>intro _)
      all_goals first
       |contradiction
       |skip
      refine Go.freezeN (l:=[]) (m:=[(0,[[.int .i64 s[i].fks[j].onDelete,.bool s[i].fks[j].deferred,.fz (s[i].fks[j].cols.map encI)]])]) (fr':=[(0,.c (.fz (s.map ja))),(1,.c (.fz (q.1.map jb))),(2,.c (.int .i64 (n:Int))),(3,.c (.fz (key.map encV))),(4,.c wv),(5,.c (.bool true)),(6,.c (.int .i64 deep)),(16,.c (.int .i64 k)),(17,.c (.int .i64 (IntKind.i64.wrap (kj+1))))]) hS (λb hb=>by cases hb) (yai _)
       (.frz rfl (.refl wa7) (.frz rfl (.refl jbj) (.frz rfl (.refl ja1) (.frz rfl (.refl w7) (.frz rfl (.refl (hwo _)) (.frz rfl (.refl wmy) (.frz rfl (.refl ja1) (.frz rfl (.refl ja1) (.frz rfl (.refl ja1) .nil))))))))) ?_
      exact hrecj _ _ _ O ⟨j+1,_,q.1,rfl,hltj,wb hkj O,⟨hkq,hsj⟩,rfl,rfl⟩
    ·rw[if_neg hq]at hsj;obtain⟨e,he⟩:∃e,q.2=e:=⟨_,rfl⟩;rw[he]at hsj hq;rw[waf he hq]at c1;rw[hsj,if_neg hq]at hst;rw[hst]
     cases gone
     ·repeat' first|(apply yA;exact rfl)|apply yB|apply yC|((first|apply yD|apply yE);(first|exact yF|assumption);iterate 6 exact rfl)|((first|apply yG|apply yH|apply yI);exact rfl;(first|exact yJ|exact yK rfl rfl|exact yL rfl|exact yM rfl|exact jcm rfl rfl hnb|exact rfl|exact aL rfl rfl rfl rfl rfl|exact aS rfl rfl rfl rfl rfl rfl rfl|exact yax ja hk hlt|exact yax ja rfl hn|exact yax j3 hkj hltj))|((first|apply yN|apply yO|apply yP);exact rfl)|((first|apply yQ|apply yR|apply yS);(iterate 3 exact rfl);exact c1)|exact yaF|(((first|apply yT|apply yU|apply yV|apply yW);exact rfl;(first|exact .d|exact .e|exact .n|((fail_if_success exact bqt);(fail_if_success exact bqf);exact .b)))<;>intro _)
      all_goals first
       |contradiction
       |exact .ret rfl (Fin.same (jan hq).symm (zg ([],e) _))
     ·repeat' first|(apply yA;exact rfl)|apply yB|apply yC|(apply yE (s:=5);(first|exact yF|assumption);iterate 6 exact rfl)|((first|apply yG|apply yH|apply yI);exact rfl;(first|exact yJ|exact yK rfl rfl|exact yL rfl|exact yM rfl|exact jcm rfl rfl hnb|exact rfl|exact aL rfl rfl rfl rfl rfl|exact aS rfl rfl rfl rfl rfl rfl rfl|exact yax ja hk hlt|exact yax ja rfl hn|exact yax j3 hkj hltj))|((first|apply yN|apply yO|apply yP);exact rfl)|((first|apply yQ|apply yR|apply yS);(iterate 3 exact rfl);exact c1)|exact yaF|(((first|apply yT|apply yU|apply yV|apply yW);exact rfl;(first|exact .d|exact .e|exact .n|((fail_if_success exact bqt);(fail_if_success exact bqf);exact .b)))<;>intro _)
      all_goals first
       |contradiction
       |exact .ret rfl (Fin.same (jan hq).symm (zg ([],e) _))
   ·have hnb:(s[i].fks[j].table !=s[n].name)=true:=by rw[bne_iff_ne];exact hna
    rw[if_neg hna]at hsj;repeat' first|(apply yA;exact rfl)|apply yB|apply yC|((first|apply yD|apply yE);(first|exact yF|assumption);iterate 6 exact rfl)|((first|apply yG|apply yH|apply yI);exact rfl;(first|exact yJ|exact yK rfl rfl|exact yL rfl|exact yM rfl|exact jcm rfl rfl hnb|exact rfl|exact aL rfl rfl rfl rfl rfl|exact aS rfl rfl rfl rfl rfl rfl rfl|exact yax ja hk hlt|exact yax ja rfl hn|exact yax j3 hkj hltj))|((first|apply yN|apply yO|apply yP);exact rfl)|exact yaF|(((first|apply yT|apply yU|apply yV|apply yW);exact rfl;(first|exact .d|exact .e|exact .n|((fail_if_success exact bqt);(fail_if_success exact bqf);exact .b)))<;>intro _)
    all_goals first
     |contradiction
     |skip
    exact Go.keep [0,1,2,3,4,5,6,16,17] (hrecj _ _ _ O ⟨j+1,_,db',rfl,hltj,wb hkj O,⟨hdb,hsj⟩,rfl,rfl⟩)
  ·rw[yac O,zbb]at hsj;rw[hsj,if_pos rfl]at hst;repeat' first|refine X ?_|((first|apply yG|apply yH|apply yI);exact rfl;(first|exact yax ja hk hlt))|exact yaF|refine Y ?_ ?_<;>intro _
   exact Go.keep [0,1,2,3,4,5,6,16] (hrec _ _ _ O ⟨i+1,_,db',rfl,hlt,wb hk O,⟨hdb,hst⟩,rfl,rfl⟩)
 ·rw[yac O,zam]at hst;rw[hst];repeat' first|refine X ?_|exact yaF|refine Y ?_ ?_<;>intro _
  exact .ret rfl (Fin.same rfl (zg (db1,0) _))
end Go.Proofs.YtedaadaaibofaaaGreat.Am
namespace Go.Proofs.YtedaadaaibofaaaGreat.Am
variable {I:Nat->Int->Prop}

theorem Qg.fcall{P:Program}{G:wa}{fr:Fr}{d:Option Nat}{f:Opd}{args:List Opd}{g:Option (Nat×Bool)}{rest:List wd}{n:Nat}{pre cap:List Ce}{vs:List AV}{r:AV}{Post:Fr->Prop}(hw:wants fr g=some true)(hf:f.ev fr=some (.c (.fn n pre cap)))(ha:evs fr args=some vs)
 (hp:Ok P n (pre.map .c++vs++cap.map .c) G (λr' G'=>r'=r/\G'=G)) (h:Qg P G rest (putA fr d r) Post):Qg P G (⟨d,.call f args,g⟩::rest) fr Post:=
 let⟨F,h1,h2⟩:=h
 ⟨F,.call hw hf ha hp h1,h2⟩
set_option maxHeartbeats 4000000 in
theorem jjh{L:ChL}{n:Nat}{s:List zd}{run:Chg->List Data->Res}{deep:Int}(hs:SchG s)(hr:jhm I L n s run (IntKind.i64.wrap (deep+1))){k:Nat}(hk:k<s.length)(key wth:List Val)(gone:Bool)(wv:Ce)(hw:With gone wv wth s[k].key.length)(hwv:∀v∈wth,ju v=true)(hw0:0<s[k].key.length)
 (db:List Data) (xs:List Ce) (V:wa) (h:ww L n s xs db V) (hdb:DbG I s db):
 Ok Tryz.prog 345 [.c (.ptr L.c L.vc 0 0),.c (.int .i64 (k:Int)),.c (.fz (key.map encV)),.c wv,.c (.int .i64 deep)] V (Done L n s (jz run s k key wth gone db) V):=by
 refine Ok.run0 mixed jca gz λhS hA=>?_;clear hS hA;have hs5:=hs.few;rw[jz,zr hk];repeat' first|refine X ?_|((first|apply yG|apply yH|apply yI);exact rfl;(first|exact jbv h rfl))|exact yaF|refine Y ?_ ?_<;>intro _
 refine Go.keep [0,1,2,3,4,22,23,24] (Go.loops (I:=λm fr V'=>∃(i:Nat) (ki:Int) (db':List Data) (xs':List Ce),m=s.length-i/\i<=s.length/\ki=i/\(DbG I s db'/\ww L n s xs' db' V'/\Kept n V V'/\zam run s[k].name key wth gone 0 s db=zam run s[k].name key wth gone i (s.drop i) db')/\
  fr=[(0,.c (.ptr L.c L.vc 0 0)),(1,.c (.int .i64 (k:Int))),(2,.c (.fz (key.map encV))),(3,.c wv),(4,.c (.int .i64 deep)),(22,.c (.fz (s.map ja))),(23,.c (.int .i64 (s.length:Int))),(24,.c (.int .i64 ki))]) ?_ _ _ _ ⟨0,_,db,xs,rfl,yad _,rfl,⟨hdb,h,.refl,rfl⟩,rfl⟩)
 rintro m fr V1 ⟨i,ki,db1,xs1,rfl,hi,hki,⟨hdb1,hH1,hk1,hst⟩,rfl⟩ hrec;by_cases hlt:i<s.length
 ·rw[yab hlt,zam]at hst;have hti:=hs.tab _ (yaa hlt);have hbi:=hs.big _ (yaa hlt);have hf3:=hti.fk3;have hn0:V.next<=V1.next:=hk1.next;subst hki;repeat' first|refine X ?_|((first|apply yG|apply yH|apply yI);exact rfl;(first|exact yax ja rfl hlt))|exact yaF|refine Y ?_ ?_<;>intro _
  refine Go.keep [0,1,2,3,4,11,22,23,24,30,31,32] (Go.loops (I:=λm fr V'=>∃(j:Nat) (kj:Int) (db':List Data) (xs':List Ce),m=s[i].fks.length-j/\j<=s[i].fks.length/\kj=j/\(DbG I s db'/\ww L n s xs' db' V'/\Kept n V V'/\zbb run s[k].name i key wth gone s[i].fks db1=zbb run s[k].name i key wth gone (s[i].fks.drop j) db')/\
   fr=[(0,.c (.ptr L.c L.vc 0 0)),(1,.c (.int .i64 (k:Int))),(2,.c (.fz (key.map encV))),(3,.c wv),(4,.c (.int .i64 deep)),(11,.c (.int .i64 (i:Int))),(22,.c (.fz (s.map ja))),(23,.c (.int .i64 (s.length:Int))),(24,.c (.int .i64 (i:Int))),(30,.c (.fz (s[i].fks.map j3))),(31,.c (.int .i64 (s[i].fks.length:Int))),(32,.c (.int .i64 kj))]) ?_ _ _ _ ⟨0,_,db1,xs1,rfl,yad _,rfl,⟨hdb1,hH1,hk1,rfl⟩,rfl⟩)
  clear hn0;rintro m fr V2 ⟨j,kj,db2,xs2,rfl,hj,hkj,⟨hdb2,hH2,hk2,hsj⟩,rfl⟩ hrecj;by_cases hltj:j<s[i].fks.length
  ·clear hrec;rw[yab hltj,zbb]at hsj;have hfm:=yaa hltj;have hn0:V.next<=V2.next:=hk2.next;by_cases hna:s[i].fks[j].table=s[k].name
   ·have hnb:(s[i].fks[j].table !=s[k].name)=false:=by rw[hna];exact bne_self_eq_false _
    rw[if_pos hna]at hsj;have hmt:=hs.met _ (yaa hlt) _ hfm k hk hna;have hw2:With gone wv wth s[i].fks[j].cols.length:=by rw[hmt];exact hw
    have hfc:=hti.fk _ hfm;have hfl:=(hbi.2.2.2.2.2.2 _ hfm).1;have hn3:i<db2.length:=by rw[hdb2.len];exact hlt
    have hn4:i<xs2.length:=by rw[hH2.len];exact hn3
    have hR2:=hdb2.rows i hlt hn3;have hz:=hH2.frzR hn3 hn4;have c1:=wl3 db2[i].rows s[i].fks[j].cols key (yaf hR2.len gb) hfl (λr hr=>by rw[(hR2.fit r hr).1];exact hfc);rw[jf hn3]at hsj;have hil:(zad db2[i].rows s[i].fks[j].cols key).length<=60:=by
     rw[zad,yae];exact yaf (ybt _ _) hR2.len
    generalize zad db2[i].rows s[i].fks[j].cols key=ids at c1 hil hsj;repeat' first|(apply yA;exact rfl)|apply yB|apply yC|((first|apply yD|apply yE);(first|exact yF|assumption);iterate 6 exact rfl)|((first|apply yG|apply yH|apply yI);exact rfl;(first|exact yJ|exact yK rfl rfl|exact yL rfl|exact yM rfl|exact jcm rfl rfl hnb|exact rfl|exact aL rfl rfl rfl rfl rfl|exact aS rfl rfl rfl rfl rfl rfl rfl|exact yax j3 hkj hltj|exact yax ja rfl hk|exact jbv hH2 rfl|exact wcq hH2 rfl|exact wea hH2 rfl rfl rfl hn3|exact zeb hH2 rfl hn4))|((first|apply yN|apply yO|apply yP);exact rfl)|exact yaF|(((first|apply yT|apply yU|apply yV|apply yW);exact rfl;(first|exact .d|exact .e|exact .n|((fail_if_success exact bqt);(fail_if_success exact bqf);exact .b)))<;>intro _)
    refine Qg.fcall rfl rfl rfl (Lend.fresh (.own hz (.same (.same .nil))) c1) ?_;repeat' first|refine X ?_|exact yaF|refine Y ?_ ?_<;>intro _
    clear c1 hz hn0
    refine Go.keep [0,1,2,3,4,11,14,22,23,24,30,31,32,58,59,60] (Go.loops (I:=λm fr V'=>∃(a:Nat) (ka:Int) (db':List Data) (xs':List Ce),m=ids.length-a/\a<=ids.length/\ka=a/\(DbG I s db'/\ww L n s xs' db' V'/\Kept n V V'/\wag run i (wc5 s[i].fks[j] gone) key wth gone ids db2=wag run i (wc5 s[i].fks[j] gone) key wth gone (ids.drop a) db')/\
     fr=[(0,.c (.ptr L.c L.vc 0 0)),(1,.c (.int .i64 (k:Int))),(2,.c (.fz (key.map encV))),(3,.c wv),(4,.c (.int .i64 deep)),(11,.c (.int .i64 (i:Int))),(14,.c (.fp (j3 s[i].fks[j]))),(22,.c (.fz (s.map ja))),(23,.c (.int .i64 (s.length:Int))),(24,.c (.int .i64 (i:Int))),(30,.c (.fz (s[i].fks.map j3))),(31,.c (.int .i64 (s[i].fks.length:Int))),(32,.c (.int .i64 kj)),(58,.c (.fz (ids.map encI))),(59,.c (.int .i64 (ids.length:Int))),(60,.c (.int .i64 ka))]) ?_ _ _ _ ⟨0,_,db2,xs2,rfl,yad _,rfl,⟨hdb2,hH2,hk2,rfl⟩,rfl⟩)
    rintro m fr V3 ⟨a,ka,db3,xs3,rfl,ha,hka,⟨hdb3,hH3,hk3,hsa⟩,rfl⟩ hreca;by_cases hlta:a<ids.length
    ·clear hrecj;have hn5:i<db3.length:=by rw[hdb3.len];exact hlt
     have hn6:i<xs3.length:=by rw[hH3.len];exact hn5
     have hR3:=hdb3.rows i hlt hn5;rw[yab hlta,wag,jf hn5]at hsa;have cf:=jdv hH3 hn5 hn6 ids[a] hR3.len;rcases zl db3[i].rows ids[a]with⟨hx1,hx2⟩|⟨b,hb,hx1,hx2⟩
     ·rw[hx2]at hsa;repeat' first|refine X ?_|((first|apply yG|apply yH|apply yI);exact rfl;(first|exact yax encI hka hlta))|exact yaF|refine Y ?_ ?_<;>intro _
      refine .call _ rfl rfl rfl (cf.1 hx2) ?_;rintro r9 V9 ⟨hr9,ht9⟩;rw[hr9,ht9];clear hr9 ht9;repeat' first|refine X ?_|exact yaF|refine Y ?_ ?_<;>intro _
      exact Go.keep [0,1,2,3,4,11,14,22,23,24,30,31,32,58,59,60] (hreca _ _ _ O ⟨a+1,_,db3,xs3,rfl,hlta,wb hka O,⟨hdb3,hH3,hk3,hsa⟩,rfl⟩)
     ·rw[hx2]at hsa;simp only at hsa;have hfit:=hR3.fit _ (yaa hb);obtain⟨lab2,ps2,id2,v2,junk2,hat,hl2⟩:=hH3.some hn5 hn6 (Nat.lt_of_le_of_lt (yad _) hb);have hfz:=hat.frz hb;have c2:=wkp s[i].fks[j].cols db3[i].rows[b].vals key hfl (by rw[hfit.1];exact hfc);repeat' first|refine X ?_|((first|apply yG|apply yH|apply yI);exact rfl;(first|exact yax encI hka hlta))|exact yaF|refine Y ?_ ?_<;>intro _
      refine .call _ rfl rfl rfl (cf.2 b hb hx1 _ _ _ _ _ hat) ?_;rintro r9 V9 ⟨hr9,ht9⟩;rw[hr9,ht9];clear hr9 ht9;rw[show(wc5 s[i].fks[j] gone).cols=s[i].fks[j].cols from rfl]at hsa
      cases hhb:hasB s[i].fks[j].cols key db3[i].rows[b].vals
      ·rw[hhb]at c2;rw[hhb,if_neg yah]at hsa;repeat' first|refine X ?_|((first|apply yG|apply yH|apply yI);exact rfl;(first|exact wm rfl hat.get (hat.at hb) (yao _)))|exact yaF|refine Y ?_ ?_<;>intro _
       refine Go.slcall rfl rfl rfl c2 (.bool _) (.same (.own hfz (.same .nil))) ?_;repeat' first|refine X ?_|exact yaF|refine Y ?_ ?_<;>intro _
       exact Go.keep [0,1,2,3,4,11,14,22,23,24,30,31,32,58,59,60] (hreca _ _ _ O ⟨a+1,_,db3,xs3,rfl,hlta,wb hka O,⟨hdb3,hH3,hk3,hsa⟩,rfl⟩)
      ·rw[hhb]at c2;rw[hhb,if_pos rfl]at hsa;have hvl:=(hat.vl _ (yaa (by rw[hat.len];exact hb))).1;rw[hat.row hb]at hvl;have c5:=jm5 hs hr hlt db3[i].rows[b] _ s[i].fks[j] wth gone wv hw2 hwv (by rw[hmt];exact hw0) hfl hfc db3 xs3 V3 hH3 hdb3 (by rw[jf hn5];exact yaa hb) hvl;rw[<-congrArg RowD.id (hat.row hb)]at c5;have hkp:=wl2 (I:=I) hr.keeps hlt (y:=wc5 s[i].fks[j] gone) (wth:=wth) (gone:=gone) (x:=db3[i].rows[b]) hdb3 hwv (by rw[jf hn5];exact yaa hb);generalize oneF run i (wc5 s[i].fks[j] gone) wth gone db3[i].rows[b] db3=q at c5 hsa hkp;repeat' first|refine X ?_|((first|apply yG|apply yH|apply yI);exact rfl;(first|exact wm rfl hat.get (hat.at hb) (yao _)))|exact yaF|refine Y ?_ ?_<;>intro _
       refine Go.slcall rfl rfl rfl c2 (.bool _) (.same (.own hfz (.same .nil))) ?_;repeat' first|refine X ?_|((first|apply yG|apply yH|apply yI);exact rfl;(first|exact zbr rfl hat.get (hat.at hb) rfl))|exact yaF|refine Y ?_ ?_<;>intro _
       refine Go.scall _ rfl rfl rfl c5 ?_;rintro r9 V9 ⟨hr9,hk9,hq9⟩;rw[hr9];clear hr9;by_cases hq:q.2=0
       ·rw[if_pos hq]at hsa;obtain⟨xs9,hH9⟩:=hq9 hq;rw[hq];repeat' first|refine X ?_|exact yaF|refine Y ?_ ?_<;>intro _
        exact Go.keep [0,1,2,3,4,11,14,22,23,24,30,31,32,58,59,60] (hreca _ _ _ O ⟨a+1,_,q.1,xs9,rfl,hlta,wb hka O,⟨hkp hq,hH9,hk3.trans hk9,hsa⟩,rfl⟩)
       ·rw[if_neg hq]at hsa;obtain⟨e,he⟩:∃e,q.2=e:=⟨_,rfl⟩;rw[he]at hq hsa⊢;rw[hsa,if_neg hq]at hsj;rw[hsj,if_neg hq]at hst;rw[hst];repeat' first|refine X ?_|exact yaF|refine Y ?_ ?_<;>intro _
        exact .ret rfl ⟨rfl,hk3.trans hk9,λh=>absurd h hq⟩
    ·rw[yac O,wag]at hsa;rw[hsa,if_pos rfl]at hsj;repeat' first|refine X ?_|exact yaF|refine Y ?_ ?_<;>intro _
     exact Go.keep [0,1,2,3,4,11,22,23,24,30,31,32] (hrecj _ _ _ O ⟨j+1,_,db3,xs3,rfl,hltj,wb hkj O,⟨hdb3,hH3,hk3,hsj⟩,rfl⟩)
   ·have hnb:(s[i].fks[j].table !=s[k].name)=true:=by rw[bne_iff_ne];exact hna
    rw[if_neg hna]at hsj;repeat' first|(apply yA;exact rfl)|apply yB|apply yC|((first|apply yD|apply yE);(first|exact yF|assumption);iterate 6 exact rfl)|((first|apply yG|apply yH|apply yI);exact rfl;(first|exact yJ|exact yK rfl rfl|exact yL rfl|exact yM rfl|exact jcm rfl rfl hnb|exact rfl|exact aL rfl rfl rfl rfl rfl|exact aS rfl rfl rfl rfl rfl rfl rfl|exact yax j3 hkj hltj|exact yax ja rfl hk|exact jbv hH2 rfl))|((first|apply yN|apply yO|apply yP);exact rfl)|exact yaF|(((first|apply yT|apply yU|apply yV|apply yW);exact rfl;(first|exact .d|exact .e|exact .n|((fail_if_success exact bqt);(fail_if_success exact bqf);exact .b)))<;>intro _)
    exact Go.keep [0,1,2,3,4,11,22,23,24,30,31,32] (hrecj _ _ _ O ⟨j+1,_,db2,xs2,rfl,hltj,wb hkj O,⟨hdb2,hH2,hk2,hsj⟩,rfl⟩)
  ·rw[yac O,zbb]at hsj;rw[hsj,if_pos rfl]at hst;repeat' first|refine X ?_|exact yaF|refine Y ?_ ?_<;>intro _
   exact Go.keep [0,1,2,3,4,22,23,24] (hrec _ _ _ O ⟨i+1,_,db2,xs2,rfl,hlt,wb rfl O,⟨hdb2,hH2,hk2,hst⟩,rfl⟩)
 ·rw[yac O,zam]at hst;rw[hst];repeat' first|refine X ?_|exact yaF|refine Y ?_ ?_<;>intro _
  exact .ret rfl ⟨rfl,hk1,λ_=>⟨xs1,hH1⟩⟩
end Go.Proofs.YtedaadaaibofaaaGreat.Am
namespace Go.Proofs.YtedaadaaibofaaaGreat.Am
variable {I:Nat->Int->Prop}

theorem Go.qxd{P:Program}{n0 nt:Nat}{rets:List RV}{R:AV->wa->Prop}{K:List AK}{fr:Fr}{α β:Type}{seg:List wd}{rest:List (List wd)}(S:α->β->wa)(I:β->Prop)(a:α)(b:β)(hi:∀a b b',S a b=S a b'->b=b')(hI:I b)(h:Qx P S I (λF a b=>Go P n0 nt rets R (.segs rest::K) F (S a b)) seg fr a b):Go P n0 nt rets R (.segs (seg::rest)::K) fr (S a b):=
 .qx S I _ a b hi hI h λ_ _ _ h=>h
theorem Ok.ext{P:Program}{f:Nat}{args:List AV}{G V:wa}{Q:AV->wa->Prop}(h:Ok P f args V Q)(e:G=V):Ok P f args G Q:=e▸h
def delF(run:Chg->List Data->Res)(s:List zd)(k:Nat)(id:Int)(db:List Data):Res:=match wav (jv db k) id with
 |none=>([],9)
 |some x=>jz run s k (keyF (tabN s k).key x.vals) [] true (db.set k ⟨w8 (jv db k) id⟩)
theorem zl5{α:Type}{p:α->Bool}:∀{l:List α} {i:Int} {j:Nat},0<=i->idxA p l i=i+(j:Int)->j<l.length->(∀x∈l.take j,p x=false)/\∀h:j<l.length,p l[j]=true
 |[],_,_,_,_,h=>by simp at h
 |a::l,i,j,hi,h,hj=>by
  rw[idxA]at h
  cases ha:p a
  ·rw[ha,if_neg yah]at h
   cases j with
   |zero=>
    exfalso;rcases jdb p l (i+1)with⟨h1,_⟩|⟨k,hk,h1,_⟩
    ·rw[h1]at h;omega
    ·omega
   |succ j=>
    obtain⟨h1,h2⟩:=zl5 (l:=l) (i:=i+1) (j:=j) O (by rw[h];omega) (by simpa using hj);refine⟨λx hx=>?_,λh=>by simpa using h2 (by simpa using h)⟩;rw[List.take_succ_cons]at hx;rcases List.mem_cons.1 hx with rfl|hx
    ·exact ha
    ·exact h1 x hx
  ·rw[ha,if_pos rfl]at h;have:j=0:=O;subst this;exact⟨λx hx=>by simp at hx,λh=>by simpa using ha⟩
theorem At.ne{L:ChL}{n k:Nat}{lab:Nat->Nat×Option Int}{V:wa}{rows:List RowD}{x:Ce}{ps:List PRow}{id v:Nat}{junk:List (List Ce)}(h:At L n k lab V rows x ps id v junk){p:PRow}(hp:p∈ps){a:Nat}(ha:idOf p.2=some a):a≠id:=λe=>by
 have h1:=((h.vl p hp).2 a ha).1;rw[e,h.own.1]at h1
 cases h1
set_option maxHeartbeats 4000000 in
theorem jk9{L:ChL}{n:Nat}{s:List zd}{run:Chg->List Data->Res}{deep:Int}(hs:SchG s)(hr:jhm I L n s run (IntKind.i64.wrap (deep+1)))(hd:deep<=12){k:Nat}(hk:k<s.length)(id:Int)(db:List Data)(xs:List Ce)(V:wa)(h:ww L n s xs db V)(hdb:DbG I s db):
 Ok Tryz.prog 281 [.c (.ptr L.c L.vc 0 0),.c (.int .i64 (k:Int)),.c (.int .i64 id),.c (.int .i64 deep)] V (Done L n s (delF run s k id db) V):=by
 refine Ok.run0 mixed zax gz λhS hA=>?_;clear hS hA;have hk2:k<db.length:=by rw[hdb.len];exact hk
 have hk3:k<xs.length:=by rw[h.len];exact hk2
 have hR:=hdb.rows k hk hk2;have ht:=hs.tab _ (yaa hk);have cf:=jdv h hk2 hk3 id hR.len;rw[delF,jf hk2,zr hk];repeat' first|refine X ?_|exact yaF|refine Y ?_ ?_<;>intro _
 rcases zl db[k].rows id with⟨hx1,hx2⟩|⟨j,hj,hx1,hx2⟩
 ·rw[hx2];refine .call _ rfl rfl rfl (cf.1 hx2) ?_;rintro r9 V9 ⟨hr9,ht9⟩;rw[hr9,ht9];repeat' first|refine X ?_|exact yaF|refine Y ?_ ?_<;>intro _
  exact .ret rfl ⟨rfl,.refl,λh=>by cases h⟩
 ·rw[hx2];show Go _ _ _ _ (Done L n s (jz run s k (keyF s[k].key db[k].rows[j].vals) [] true (db.set k ⟨w8 db[k].rows id⟩)) V) _ _ _;have hfit:=hR.fit _ (yaa hj);obtain⟨lab2,ps2,id2,v2,junk2,hat,hl2⟩:=h.some hk2 hk3 (Nat.lt_of_le_of_lt (yad _) hj);obtain⟨_,q1,q2,q3,q4⟩:=hat.own;have hj2:j<ps2.length:=by rw[hat.len];exact hj
  have ck:=Lend.fresh (.same (.own (hat.frz hj) .nil)) (zgo s[k].key db[k].rows[j].vals (hs.big _ (yaa hk)).2.2.1 (by rw[hfit.1];exact ht.key));have hpre:=zl5 (p:=λr:RowD=>r.id==id) (l:=db[k].rows) (i:=0) (j:=j) gb (by rw[hx1];omega) hj;have hzf:=h.frzR hk2 hk3;rw[hat.x,<-hat.rows]at hzf;have hdrop:(ps2.filter λr=> !(r.1.id==id)).map (·.1)=w8 db[k].rows id:=by
   rw[w8,<-hat.rows,List.filter_map]
   rfl
  have cd:=zk9 ps2 junk2 id (by rw[hat.len];exact hR.len) id2 v2 V hat.get hat.jk hzf j hj2 (by rw[hat.rows];exact hx1) (by rw[hat.row hj];exact hpre.2 hj) (λr hr=>hpre.1 r.1 (by rw[<-hat.rows,<-List.map_take];exact List.mem_map_of_mem hr));rw[<-hat.x]at cd;have hset:DbG I s (db.set k ⟨w8 db[k].rows id⟩):=hdb.set hk (hR.drop id);refine .call _ rfl rfl rfl (cf.2 j hj hx1 _ _ _ _ _ hat) ?_;rintro r9 V9 ⟨hr9,ht9⟩;rw[hr9,ht9];clear hr9 ht9;repeat' first|apply Go.seq|apply Go.skip|apply Go.region|apply Go.nil|apply Go.block|apply Go.blk|apply Go.segs|(apply Go.exit;exact rfl)|(apply Go.cond true;exact rfl)|(apply Go.cond false;exact rfl)|apply yB|apply yC|((first|apply yD|apply yE);(first|exact yF|assumption);iterate 6 exact rfl)|((first|apply yG|apply yH|apply yI);exact rfl;(first|exact yJ|exact yK rfl rfl|exact yL rfl|exact yM rfl|exact rfl|exact aL rfl rfl rfl rfl rfl|exact aS rfl rfl rfl rfl rfl rfl rfl))|((first|apply yN|apply yO|apply yP);exact rfl)|exact yaF|(((first|apply yT|apply yU|apply yV|apply yW);exact rfl;(first|exact .d|exact .e|exact .n|((fail_if_success exact bqt);(fail_if_success exact bqf);exact .b)))<;>intro _)
  apply Go.draw;repeat' first|apply Go.seq|apply Go.skip|apply Go.region|apply Go.nil|apply Go.block|apply Go.blk|apply Go.segs|(apply Go.exit;exact rfl)|(apply Go.cond true;exact rfl)|(apply Go.cond false;exact rfl)|apply yB|apply yC|((first|apply yD|apply yE);(first|exact yF|assumption);iterate 6 exact rfl)|((first|apply yG|apply yH|apply yI);exact rfl;(first|exact yJ|exact yK rfl rfl|exact yL rfl|exact yM rfl|exact rfl|exact aL rfl rfl rfl rfl rfl|exact aS rfl rfl rfl rfl rfl rfl rfl|exact jbv h rfl|exact yax ja rfl hk|exact wm rfl hat.get (hat.at hj) (yao _)))|((first|apply yN|apply yO|apply yP);exact rfl)|exact yaF|(((first|apply yT|apply yU|apply yV|apply yW);exact rfl;(first|exact .d|exact .e|exact .n|((fail_if_success exact bqt);(fail_if_success exact bqf);exact .b)))<;>intro _)
  refine Go.scall _ rfl rfl rfl ck ?_;rintro r9 V8 ⟨hr9,ht9⟩;rw[hr9,ht9];clear hr9 ht9;repeat' first|apply Go.seq|apply Go.skip|apply Go.region|apply Go.nil|apply Go.block|apply Go.blk|apply Go.segs|(apply Go.exit;exact rfl)|(apply Go.cond true;exact rfl)|(apply Go.cond false;exact rfl)|apply yB|apply yC|((first|apply yD|apply yE);(first|exact yF|assumption);iterate 6 exact rfl)|((first|apply yG|apply yH|apply yI);exact rfl;(first|exact yJ|exact yK rfl rfl|exact yL rfl|exact yM rfl|exact rfl|exact aL rfl rfl rfl rfl rfl|exact aS rfl rfl rfl rfl rfl rfl rfl))|((first|apply yN|apply yO|apply yP);exact rfl)|exact yaF|(((first|apply yT|apply yU|apply yV|apply yW);exact rfl;(first|exact .d|exact .e|exact .n|((fail_if_success exact bqt);(fail_if_success exact bqf);exact .b)))<;>intro _)
  apply Go.draw;have hcA:∀a,(V.put id2 a).get L.c=some (L.vc,[[.fz (s.map ja),.sl L.d L.vd 0 db.length (db.length+L.junk.length)]]):=λa=>(if_neg (Ne.symm q3)).trans h.c;have hdA:∀a,(V.put id2 a).get L.d=some (L.vd,cells xs++L.junk):=λa=>(if_neg (Ne.symm q4)).trans h.d;refine Go.ext ?_ (zih hat.get);refine Go.qxd (λa (_:Unit)=>V.put id2 a) (λ_=>True) (v2,ps2.map encP++junk2) () (λ_ _ _ _=>rfl) trivial ?_;have o1:∀(a:Nat×List (List Ce)) (fr:Fr) (x:Opd),x.ev fr=some (.c (.ptr L.c L.vc 0 1))->aop (.load false 1 x) fr (V.put id2 a)=some (.c (.sl L.d L.vd 0 db.length (db.length+L.junk.length)),V.put id2 a):=λa fr x hx=>wm hx (hcA a) rfl (yao _);have o2:∀(a:Nat×List (List Ce)) (fr:Fr) (x y:Opd),x.ev fr=some (.c (.sl L.d L.vd 0 db.length (db.length+L.junk.length)))->y.ev fr=some (.c (.int .i64 (k:Int)))->aop (.iaddr 1 x y) fr (V.put id2 a)=some (.c (.ptr L.d L.vd (0+k) 0),V.put id2 a):=λa fr x y hx hy=>je hx hy rfl hk2 (hdA a) (za0 hk3) rfl;have o3:∀(a:Nat×List (List Ce)) (fr:Fr) (x:Opd),x.ev fr=some (.c (.ptr L.d L.vd (0+k) 0))->aop (.load false 1 x) fr (V.put id2 a)=some (.c xs[k],V.put id2 a):=λa fr x hx=>wm hx (hdA a) (za0 hk3) (yao _);repeat' first|(apply Qx.op;exact rfl;(first|exactλa _ _=>o1 a _ _ rfl|exactλa _ _=>o2 a _ _ _ rfl rfl|exactλa _ _=>o3 a _ _ rfl|exactλ_ _ _=>rfl))
  have cd2:=cd.ext (zih hat.get);refine Qx.call (λr a'=>∃junk',Jk 2 junk'/\r=.c (vec id2 v2 ((ps2.filter λr=> !(r.1.id==id)).map encP) junk')/\a'=(v2,(ps2.filter λr=> !(r.1.id==id)).map encP++junk')) rfl rfl rfl (λ_ _=>cd2.mono ?_) ?_
  ·rintro r V9 ⟨junk',hj',rfl,rfl⟩;exact⟨_,⟨junk',hj',rfl,rfl⟩,rfl⟩
  rintro r a' ⟨junk',hj',rfl,rfl⟩;refine .nil ?_;show Go _ _ _ _ _ _ _ (V.put id2 (v2,(ps2.filter λr=> !(r.1.id==id)).map encP++junk'));generalize hfe:(ps2.filter λr=> !(r.1.id==id))=pf at hdrop;have hne2:id2≠L.d:=q4;have hH2:ww L n s (xs.set k (vec id2 v2 (pf.map encP) junk')) (db.set k ⟨w8 db[k].rows id⟩) ((V.put id2 (v2,pf.map encP++junk')).put L.d (L.vd,(cells xs++L.junk).set (0+k) [vec id2 v2 (pf.map encP) junk'])):=by
   refine h.upd hl2 hk3 (new:=λ_=>none) (yai _) (λa ha hne hno=>?_) ?_ ?_
   ·exact(if_neg hne).trans (if_neg λe=>hno ⟨none,by rw[e];exact hat.own⟩)
   ·rw[wjg hk3];exact ja7
   ·refine .sl _ pf id2 v2 junk' hdrop ((if_neg hne2).trans ja7) hj' (.inl hat.own) λp hp=>?_;have hm:p∈ps2:=by rw[<-hfe]at hp;exact(List.mem_filter.1 hp).1
    refine⟨(hat.vl p hm).1.frame λa ha=>(if_neg ?_).trans (if_neg ?_),λa ha=>.inl ((hat.vl p hm).2 a ha)⟩
    ·exact((hat.vl p hm).2 a ha).2.2.2.2
    ·exact hat.ne hm ha
  have hK2:Kept n V ((V.put id2 (v2,pf.map encP++junk')).put L.d (L.vd,(cells xs++L.junk).set (0+k) [vec id2 v2 (pf.map encP) junk'])):=(Kept.put q1).trans (.put h.nd);repeat' first|refine X ?_|((first|apply yG|apply yH|apply yI);exact rfl;(first|exact je rfl rfl rfl hk2 (hdA _) (za0 hk3) rfl|exact zk rfl rfl (hdA _) (za0 hk3) (yao _)))|exact yaF|refine Y ?_ ?_<;>intro _
  have cw:=jjh hs hr hk (keyF s[k].key db[k].rows[j].vals) [] true .nils .gone (λv hv=>by cases hv) (hs.key0 _ (yaa hk)) _ _ _ hH2 hset;refine .call _ rfl rfl rfl cw ?_;rintro r9 V9 ⟨hr9,hk9,hq9⟩;rw[hr9];repeat' first|refine X ?_|exact yaF|refine Y ?_ ?_<;>intro _
  exact .ret rfl ⟨rfl,hK2.trans hk9,hq9⟩
end Go.Proofs.YtedaadaaibofaaaGreat.Am
namespace Go.Proofs.YtedaadaaibofaaaGreat.Am
variable {I:Nat->Int->Prop}

theorem wjh(t:zd)(vals:List Val)(hl:vals.length=t.cols.length)(h0:vals≠[])(hc:t.cols.length<=8):Pure Tryz.prog 234 [.agg (ja t),.c (.fz (vals.map encV))] (.c (.fz ((jl t 0 vals).map encV))):=by
 refine NewV.pure λG=>Ok.run mixed wfe gz λhS hA=>?_;clear hA hS;have cm:=zat vals h0 O (E G []);repeat' first|refine X ?_|exact yaF|refine Y ?_ ?_<;>intro _
 refine .call _ rfl rfl rfl cm ?_;rintro q V9 ⟨v,junk,hj,hq,ht⟩;rw[hq,ht,E_E];repeat' first|refine X ?_|exact yaF|refine Y ?_ ?_<;>intro _
 refine Go.keep [2,5,10,11,12] (Go.loops (I:=λm fr V=>∃(i:Nat) (k:Int) (cur:List Val),m=vals.length-i/\i<=vals.length/\k=i/\(cur.length=vals.length/\jl t 0 vals=cur.take i++jl t i (cur.drop i))/\
  fr=[(2,.c (.fp (ja t))),(5,.c (vec (G.next+0) v (vals.map encV) junk)),(10,.c (vec (G.next+0) v (vals.map encV) junk)),(11,.c (.int .i64 ((vals.map encV).length:Int))),(12,.c (.int .i64 k))]/\V=E G [(v,cur.map encV++junk)]) ?_ _ _ _ ⟨0,_,vals,rfl,yad _,rfl,⟨rfl,gx⟩,rfl,rfl⟩)
 rintro m fr V ⟨i,k,cur,rfl,hi,hk,⟨hcl,hst⟩,rfl,rfl⟩ hrec;rw[yae]at hrec⊢;by_cases hlt:i<vals.length
 ·have hlc:i<t.cols.length:=O;have hi2:i<cur.length:=O;have him:i<(vals.map encV).length:=by rw[yae];exact hlt
  have hnn:jy t (i:Int)=t.cols[i].notNull:=by rw[jy,ybh,yag hlc]
  have hdf:wgp t i=t.cols[i].dflt:=by rw[wgp,yag hlc]
  rw[yab hi2,jl,hnn,hdf]at hst;have hsame:jl t 0 vals=cur.take i++cur[i]::jl t (i+1) (cur.drop (i+1))->jl t 0 vals=cur.take (i+1)++jl t (i+1) (cur.drop (i+1)):=λh=>by rw[h,yaj hi2,ybq];rfl
  have hat:((cur.map encV)++junk)[0+i]?=some (encV cur[i]):=way hi2;have hgE:(E G [(v,cur.map encV++junk)]).get (G.next+0)=some (v,cur.map encV++junk):=by rw[E_at];rfl
  by_cases hz:cur[i].k=0
  ·cases hb:t.cols[i].notNull
   ·rw[hb,ybk,if_neg yah]at hst;repeat' first|refine X ?_|((first|apply yG|apply yH|apply yI);exact rfl;(first|exact z9 (k:=0) rfl rfl hk him rfl hat rfl|exact zbr rfl hgE hat rfl|exact yax ji hk hlc))|exact yaF|refine Y ?_ ?_<;>intro _
    all_goals first
     |exact Go.keep [2,5,10,11,12] (hrec _ _ _ O ⟨i+1,_,cur,rfl,hlt,wb hk O,⟨hcl,hsame hst⟩,rfl,rfl⟩)
     |(exfalso;simp_all;done)
   ·rw[hb,hz,if_pos gb]at hst;repeat' first|refine X ?_|((first|apply yG|apply yH|apply yI);exact rfl;(first|exact z9 (k:=0) rfl rfl hk him rfl hat rfl|exact zbr rfl hgE hat rfl|exact yax ji hk hlc|exact jm (k:=0) rfl rfl rfl rfl hat rfl gz))|exact yaF|refine Y ?_ ?_<;>intro _
    all_goals first
     |(refine Go.keep [2,5,10,11,12] (hrec _ _ _ O ⟨i+1,_,cur.set i t.cols[i].dflt,rfl,hlt,wb hk O,⟨by rw[yarq];exact hcl, ?_⟩,rfl, ?_⟩)
       ·rw[hst,yaj (by rw[yarq];exact hi2),List.take_set_of_le (yai _),List.getElem_set_self,List.drop_set_of_lt (yao _),ybq]
        rfl
       ·exact congrArg (E G) (congrArg (λz=>[(v,z)]) (zcm hi2 _ t.cols[i].dflt)))
     |(exfalso;simp_all;done)
  ·rw[beq_eq_false_iff_ne.2 hz,ybi,if_neg yah]at hst;repeat' first|refine X ?_|((first|apply yG|apply yH|apply yI);exact rfl;(first|exact z9 (k:=0) rfl rfl hk him rfl hat rfl|exact zbr rfl hgE hat rfl|exact yax ji hk hlc))|exact yaF|refine Y ?_ ?_<;>intro _
   all_goals first
    |exact Go.keep [2,5,10,11,12] (hrec _ _ _ O ⟨i+1,_,cur,rfl,hlt,wb hk O,⟨hcl,hsame hst⟩,rfl,rfl⟩)
    |(exfalso;simp_all;done)
 ·clear hrec;rw[yac O,jl,ybg,yan O]at hst;repeat' first|refine X ?_|exact yaF|refine Y ?_ ?_<;>intro _
  refine .ret rfl ?_;rw[hst];have hvv:vec (G.next+0) v (vals.map encV) junk=vec (G.next+0) v (cur.map encV) junk:=by rw[vec,vec,yae,yae,hcl]
  rw[hvv];exact zcq jak hj
theorem whm(t:zd)(vals:List Val)(hl:vals.length=t.cols.length)(ht:wk6 t)(hb:zah 34359738368 t):Pure Tryz.prog 235 [.agg (ja t),.c (.fz (vals.map encV))] (.c (.int .i64 (zcd t vals))):=by
 refine yaq [2] jg3 λG=>?_;have c1:=zk7 t vals hl ht.cols8;have c2:=jjg t vals (yaf ht.chk3 gb) (λc hc=>(hb.2.2.2.2.1.2 c hc).1) (by rw[hl];exact yaf ht.cols8 gb);rw[zcd];generalize za7 t 0 vals=a at c1⊢;generalize t.checks.any (zbg vals)=b at c2⊢
 cases a
 ·cases b
  ·repeat' first|refine X ?_|refine yaC (c1) ?_|refine yaC (c2) ?_|exact yaF|refine Y ?_ ?_<;>intro _
   exact .ret rfl (.int rfl)
  ·repeat' first|refine X ?_|refine yaC (c1) ?_|refine yaC (c2) ?_|exact yaF|refine Y ?_ ?_<;>intro _
   exact .ret rfl (.int rfl)
 ·repeat' first|refine X ?_|refine yaC (c1) ?_|refine yaC (c2) ?_|exact yaF|refine Y ?_ ?_<;>intro _
  exact .ret rfl (.int rfl)
theorem wk9{l:List RowD}(hr:Rise l){j:Nat}(hj:j<l.length){x:RowD}(hx:l[j].id=x.id):setRow l x=l.set j x:=by
 refine List.ext_getElem (by rw[setRow,yae,yarq]) λi h1 h2=>?_;have hi:i<l.length:=by rw[yarq]at h2;exact h2
 rw[List.getElem_set];simp only[setRow,List.getElem_map];have h3:=List.pairwise_iff_getElem.1 hr;by_cases e:j=i
 ·subst e;rw[if_pos (beq_iff_eq.2 hx),if_pos rfl]
 ·rw[if_neg e,if_neg];intro he;have he:=beq_iff_eq.1 he;rcases Nat.lt_trichotomy i j with h|h|h
  ·have:=h3 i j hi hj h;omega
  ·omega
  ·have:=h3 j i hj hi h;omega
theorem At.set{L:ChL}{n:Nat}{s:List zd}{xs:List Ce}{db:List Data}{V:wa}(h:ww L n s xs db V){k:Nat}(hk:k<db.length)(hk2:k<xs.length){lab:Nat->Nat×Option Int}{ps:List PRow}{id2 v2:Nat}{junk2:List (List Ce)}(hat:At L n k lab V db[k].rows xs[k] ps id2 v2 junk2)
 (hl:∀i (h:i<xs.length) (h2:i<db.length),Tb V (Own L n V.next lab i) db[i].rows xs[i]) (hr:Rise db[k].rows) {j:Nat} (hj:j<db[k].rows.length) {id:Int} (hid:db[k].rows[j].id=id) (vals:List Val) {v:Nat} {junk:List (List Ce)} (hjk:Jk 3 junk):
 ww L n s xs (db.set k ⟨setRow db[k].rows ⟨id,vals⟩⟩) ((E V [(v,vals.map encV++junk)]).put id2 (v2,(ps.map encP++junk2).set (0+j) (zj (encP (ps[j]'(by rw[hat.len];exact hj))) 1 [vec (V.next+0) v (vals.map encV) junk]))):=by
 have hj2:j<ps.length:=by rw[hat.len];exact hj
 obtain⟨_,q1,q2,q3,q4⟩:=hat.own;have hps:(ps.map encP++junk2).set (0+j) (zj (encP ps[j]) 1 [vec (V.next+0) v (vals.map encV) junk])=(ps.set j (⟨id,vals⟩,vec (V.next+0) v (vals.map encV) junk)).map encP++junk2:=by
  have h1:zj (encP ps[j]) 1 [vec (V.next+0) v (vals.map encV) junk]=encP (⟨id,vals⟩,vec (V.next+0) v (vals.map encV) junk):=by
   have h2:ps[j].1.id=id:=by rw[hat.row hj];exact hid
   simp only[encP,zj,h2]
   rfl
  rw[h1,Nat.zero_add,List.set_append_left _ _ (by simpa using hj2),List.map_set]
 rw[hps];have h9:xs=xs.set k xs[k]:=(yay hk2).symm;have hng:∀{a:Nat},a<V.next->a≠id2->((E V [(v,vals.map encV++junk)]).put id2 (v2,(ps.set j (⟨id,vals⟩,vec (V.next+0) v (vals.map encV) junk)).map encP++junk2)).get a=V.get a:=λha hne=>(if_neg hne).trans (E_lt ha);have hE:(E V [(v,vals.map encV++junk)]).next=V.next+1:=rfl;have main:=h.upd hl hk2 (V2:=(E V [(v,vals.map encV++junk)]).put id2 (v2,(ps.set j (⟨id,vals⟩,vec (V.next+0) v (vals.map encV) junk)).map encP++junk2)) (x:=xs[k]) (rows:=setRow db[k].rows ⟨id,vals⟩) (new:=λ_=>some id) (by show V.next<=V.next+1;omega) (λa ha hne hno=>?_) ?_ ?_
 ·rw[<-h9]at main;exact main
 ·exact hng ha λe=>hno ⟨none,by rw[e];exact hat.own⟩
 ·rw[<-h9,hng h.ld (Ne.symm q4)];exact h.d
 ·have hx:=hat.x;generalize hxx:xs[k]=x at hx⊢;subst hx;have e0:vec id2 v2 (ps.map encP) junk2=vec id2 v2 ((ps.set j (⟨id,vals⟩,vec (V.next+0) v (vals.map encV) junk)).map encP) junk2:=by simp[vec]
  rw[e0];refine .sl _ (ps.set j (⟨id,vals⟩,vec (V.next+0) v (vals.map encV) junk)) id2 v2 junk2 ?_ ja7 hat.jk (.inl hat.own) λp hp=>?_
  ·rw[wk9 hr hj hid,ybm,hat.rows]
  ·rcases ybe hp with hm|rfl
   ·exact⟨(hat.vl p hm).1.frame λa ha=>hng ((hat.vl p hm).2 a ha).2.2.1 (hat.ne hm ha),λa ha=>.inl ((hat.vl p hm).2 a ha)⟩
   ·refine⟨.sl vals _ v junk ((if_neg O).trans ?_) hjk,λa ha=>.inr ?_⟩
    ·rw[E_at]
     rfl
    ·cases ha;exact⟨yai _,by show V.next+0<V.next+1;omega,rfl⟩
end Go.Proofs.YtedaadaaibofaaaGreat.Am
namespace Go.Proofs.YtedaadaaibofaaaGreat.Am
variable {I:Nat->Int->Prop}

variable {run:Chg->List Data->Res}{deep:Int}
theorem wkc{s:List zd}(hs:SchG s)(hr:weu I s run (IntKind.i64.wrap (deep+1)))(hd:deep<=12){n:Nat}(hn:n<s.length)(id:Int)(db:List Data)(x:RowD)(h:DbG I s db)(hx:wav (jv db n) id=some x):
 Pure Tryz.prog 257 [.c (.fz (s.map ja)),.c (.fz (db.map jb)),.c (.int .i64 (n:Int)),.c (.int .i64 id),.c (.int .i64 deep)] (resV (jz run s n (keyF s[n].key x.vals) [] true (db.set n ⟨w8 (jv db n) id⟩))):=by
 refine yas jb1 λG=>?_;have hn2:n<db.length:=by rw[h.len];exact hn
 have hR:=h.rows n hn hn2;have ht:=hs.tab _ (yaa hn);rw[jf hn2]at hx⊢;have c1:=zai db[n] id (yaf hR.len gb);rcases zl db[n].rows id with⟨_,hx2⟩|⟨j,hj,hx1,hx2⟩
 ·rw[hx2]at hx
  cases hx
 ·rw[hx2]at hx;injection hx with hx;subst hx;rw[hx1]at c1;have hfit:=hR.fit _ (yaa hj);have c2:=wbp s[n].key db[n].rows[j].vals (hs.big _ (yaa hn)).2.2.1 (by rw[hfit.1];exact ht.key);have c3:=jl3 db[n] id hR.len;have c4:=wd9 db (n:Int) n ⟨w8 db[n].rows id⟩ rfl hn2 (by rw[h.len];exact yaf hs.few gb);have hset:DbG I s (db.set n ⟨w8 db[n].rows id⟩):=h.set hn (hR.drop id);have c5:=wcm hs hr hn (keyF s[n].key db[n].rows[j].vals) [] true .nils .gone (λv hv=>by cases hv) (db.set n ⟨w8 db[n].rows id⟩) hset;generalize jz run s n (keyF s[n].key db[n].rows[j].vals) [] true (db.set n ⟨w8 db[n].rows id⟩)=q at c5⊢;generalize db.set n ⟨w8 db[n].rows id⟩=db2 at c4 c5;generalize keyF s[n].key db[n].rows[j].vals=key at c2 c5;generalize jaf s[n].key db[n].rows[j].vals=wh at c2;by_cases hq:q.2=0
  ·rw[jaj hq]at c5;repeat' first|apply Go.seq|apply Go.skip|apply Go.region|apply Go.nil|apply Go.block|apply Go.blk|apply Go.segs|(apply Go.exit;exact rfl)|(apply Go.cond true;exact rfl)|(apply Go.cond false;exact rfl)|apply yB|apply yC|((first|apply yD|apply yE);(first|exact yF|assumption);iterate 6 exact rfl)|((first|apply yG|apply yH|apply yI);exact rfl;(first|exact yJ|exact yK rfl rfl|exact yL rfl|exact yM rfl|exact rfl|exact aL rfl rfl rfl rfl rfl|exact aS rfl rfl rfl rfl rfl rfl rfl))|((first|apply yN|apply yO|apply yP);exact rfl)|exact yaF|(((first|apply yT|apply yU|apply yV|apply yW);exact rfl;(first|exact .d|exact .e|exact .n|((fail_if_success exact bqt);(fail_if_success exact bqf);exact .b)))<;>intro _)
   apply Go.draw;refine Go.qkd [] ?_;repeat' first|(apply Qk.nil;show Go _ _ _ _ _ _ _ _)|(apply Qk.op;exact rfl;(first|(rintro _ ⟨_,rfl⟩;exact rfl)|(rintro _ ⟨_,rfl⟩;exact jau rfl rfl rfl (yak rfl) rfl)|(rintro _ ⟨_,rfl⟩;exact yax jb rfl hn2)|(rintro _ ⟨_,rfl⟩;exact yax jc rfl hj)))|(apply Qk.no;exact rfl)|(apply Qk.pcall;(iterate 3 exact rfl);(first|exact c1))|(apply Qk.wop;exact rfl;exact rfl;(first|exact yJ|exact yL rfl|exact jm rfl rfl rfl rfl rfl rfl (yak rfl));exact⟨_,rfl⟩)
   repeat' first|apply Go.seq|apply Go.skip|apply Go.region|apply Go.nil|apply Go.blk|apply Go.draw|apply Go.segs|(apply Go.exit;exact rfl)|(apply Go.cond true;exact rfl)|(apply Go.cond false;exact rfl)|apply yB|apply yC|((first|apply yD|apply yE);(first|exact yF|assumption);iterate 6 exact rfl)|((first|apply yG|apply yH|apply yI);exact rfl;(first|exact yJ|exact yK rfl rfl|exact yL rfl|exact yM rfl|exact rfl|exact aL rfl rfl rfl rfl rfl|exact aS rfl rfl rfl rfl rfl rfl rfl|exact yax jb rfl hn2|exact yax ja rfl hn))|((first|apply yN|apply yO|apply yP);exact rfl)|((first|apply yQ|apply yR|apply yS);(iterate 3 exact rfl);(first|exact c2|exact c3|exact c4|exact c5))|exact yaF|(((first|apply yT|apply yU|apply yV|apply yW);exact rfl;(first|exact .d|exact .e|exact .n|((fail_if_success exact bqt);(fail_if_success exact bqf);exact .b)))<;>intro _)
   exact .ret rfl (Fin.same (jaj hq).symm (zg q _))
  ·obtain⟨e,he⟩:∃e,q.2=e:=⟨_,rfl⟩;rw[he]at hq;rw[waf he hq]at c5;repeat' first|apply Go.seq|apply Go.skip|apply Go.region|apply Go.nil|apply Go.block|apply Go.blk|apply Go.segs|(apply Go.exit;exact rfl)|(apply Go.cond true;exact rfl)|(apply Go.cond false;exact rfl)|apply yB|apply yC|((first|apply yD|apply yE);(first|exact yF|assumption);iterate 6 exact rfl)|((first|apply yG|apply yH|apply yI);exact rfl;(first|exact yJ|exact yK rfl rfl|exact yL rfl|exact yM rfl|exact rfl|exact aL rfl rfl rfl rfl rfl|exact aS rfl rfl rfl rfl rfl rfl rfl))|((first|apply yN|apply yO|apply yP);exact rfl)|exact yaF|(((first|apply yT|apply yU|apply yV|apply yW);exact rfl;(first|exact .d|exact .e|exact .n|((fail_if_success exact bqt);(fail_if_success exact bqf);exact .b)))<;>intro _)
   apply Go.draw;refine Go.qkd [] ?_;repeat' first|(apply Qk.nil;show Go _ _ _ _ _ _ _ _)|(apply Qk.op;exact rfl;(first|(rintro _ ⟨_,rfl⟩;exact rfl)|(rintro _ ⟨_,rfl⟩;exact jau rfl rfl rfl (yak rfl) rfl)|(rintro _ ⟨_,rfl⟩;exact yax jb rfl hn2)|(rintro _ ⟨_,rfl⟩;exact yax jc rfl hj)))|(apply Qk.no;exact rfl)|(apply Qk.pcall;(iterate 3 exact rfl);(first|exact c1))|(apply Qk.wop;exact rfl;exact rfl;(first|exact yJ|exact yL rfl|exact jm rfl rfl rfl rfl rfl rfl (yak rfl));exact⟨_,rfl⟩)
   repeat' first|apply Go.seq|apply Go.skip|apply Go.region|apply Go.nil|apply Go.blk|apply Go.draw|apply Go.segs|(apply Go.exit;exact rfl)|(apply Go.cond true;exact rfl)|(apply Go.cond false;exact rfl)|apply yB|apply yC|((first|apply yD|apply yE);(first|exact yF|assumption);iterate 6 exact rfl)|((first|apply yG|apply yH|apply yI);exact rfl;(first|exact yJ|exact yK rfl rfl|exact yL rfl|exact yM rfl|exact rfl|exact aL rfl rfl rfl rfl rfl|exact aS rfl rfl rfl rfl rfl rfl rfl|exact yax jb rfl hn2|exact yax ja rfl hn))|((first|apply yN|apply yO|apply yP);exact rfl)|((first|apply yQ|apply yR|apply yS);(iterate 3 exact rfl);(first|exact c2|exact c3|exact c4|exact c5))|exact yaF|(((first|apply yT|apply yU|apply yV|apply yW);exact rfl;(first|exact .d|exact .e|exact .n|((fail_if_success exact bqt);(fail_if_success exact bqf);exact .b)))<;>intro _)
   exact .ret rfl (Fin.same (waf he hq).symm (zg q _))
set_option maxHeartbeats 4000000 in
theorem zkd{s:List zd}(hs:SchG s)(hr:weu I s run (IntKind.i64.wrap (deep+1)))(hd:deep<=12){n:Nat}(hn:n<s.length)(id:Int)(vals0:List Val)(rep:Bool)(db:List Data)(h:DbG I s db)(hl:vals0.length=s[n].cols.length)(hv:jt vals0 16=true):
 Pure Tryz.prog 259 [.c (.fz (s.map ja)),.c (.fz (db.map jb)),.c (.int .i64 (n:Int)),.c (.int .i64 id),.c (.fz (vals0.map encV)),.c (.bool rep),.c (.int .i64 deep)] (resV (updF run s n id (if rep then jl s[n] 0 vals0 else vals0) rep db)):=by
 refine yas wb1 λG=>?_;have hn2:n<db.length:=by rw[h.len];exact hn
 have ht:=hs.tab _ (yaa hn);have hb:=hs.big _ (yaa hn);have cF:=jgr s[n] vals0 hl ht.cols8;have hvv:=whk hs hn hl hv rep;rw[updF,zr hn]
 cases hrp:rep
 ·rw[hrp]at hvv;simp only[Bool.false_eq_true,if_false]at hvv;rw[if_neg yah];clear cF hl hv;obtain⟨vals,hve⟩:∃vals,vals=vals0:=⟨_,rfl⟩;subst hve;repeat' first|refine X ?_|((first|apply yG|apply yH|apply yI);exact rfl;(first|exact yax ja rfl hn))|exact yaF|refine Y ?_ ?_<;>intro _
  have ca:=jeu s[n] vals hvv.1 ht hvv.2;by_cases hab:zcd s[n] vals=0
  ·rw[hab]at ca;rw[if_pos hab];repeat' first|refine X ?_|refine yaC (ca) ?_|exact yaF|refine Y ?_ ?_<;>intro _
   clear ca;have cc:=wdv hs hr hn ⟨id,vals⟩ hvv.1 rep db h;have hkc:=λ(h2:(wad run s[n] n ⟨id,vals⟩ rep db).2=0)=>zbv hr.keeps hn (t:=s[n]) (x:=⟨id,vals⟩) (rep:=rep) h h2;rw[hrp]at cc hkc;generalize wad run s[n] n ⟨id,vals⟩ _ db=c at cc hkc⊢;by_cases hc0:c.2=0
   ·rw[jaj hc0]at cc;have hdb:=hkc hc0;have hup:∀old,wav (jv c.1 n) id=some old->upd1 run s n id vals c=upd3 s n id (upd2 run s n id vals old c.1):=λold ho=>by rw[upd1,if_pos hc0,ho]
    have hup0:wav (jv c.1 n) id=none->upd1 run s n id vals c=([],9):=λho=>by rw[upd1,if_pos hc0,ho]
    generalize upd1 run s n id vals c=U at hup hup0⊢;generalize c.1=db1 at cc hdb hup hup0;clear hkc;have hn1:n<db1.length:=by rw[hdb.len];exact hn
    have hR1:=hdb.rows n hn hn1;rw[jf hn1]at hup hup0;have c1:=zai db1[n] id (yaf hR1.len gb);rcases zl db1[n].rows id with⟨hx1,hx2⟩|⟨j,hj,hx1,hx2⟩
    ·rw[hx1]at c1;rw[hup0 hx2];repeat' first|refine X ?_|((first|apply yG|apply yH|apply yI);exact rfl;(first|exact yax jb rfl hn1))|refine yaC (cc) ?_|refine yaC (c1) ?_|exact yaF|refine Y ?_ ?_<;>intro _
     exact .ret rfl (Fin.same rfl (zg ([],9) _))
    ·rw[hx1]at c1;rw[hup _ hx2];clear hup hup0;have hfit:=hR1.fit _ (yaa hj);have hidx:db1[n].rows[j].id=id:=(z8 hx2).2;have c2:=wbp s[n].key db1[n].rows[j].vals hb.2.2.1 (by rw[hfit.1];exact ht.key);have c3:=wbp s[n].key vals hb.2.2.1 (by rw[hvv.1];exact ht.key);have c4:=zgs db1[n] ⟨id,vals⟩ hR1.len;rw[wgr hR1.rise ⟨_,yaa hj,hidx⟩]at c4;have c5:=wd9 db1 (n:Int) n ⟨setRow db1[n].rows ⟨id,vals⟩⟩ rfl hn1 (by rw[hdb.len];exact yaf hs.few gb);have c6:=zbp (keyF s[n].key db1[n].rows[j].vals) (keyF s[n].key vals) (by rw[wa6];exact hb.2.2.1);have hset:DbG I s (db1.set n ⟨setRow db1[n].rows ⟨id,vals⟩⟩):=hdb.set hn (hR1.set (x:=⟨id,vals⟩) hvv);rw[upd2,zr hn,jf hn1];have hkv:=zea ht hvv.1 hvv.2;have hw:With false (.fz ((keyF s[n].key vals).map encV)) (keyF s[n].key vals) s[n].key.length:=.now (by rw[wa6];exact yai _);generalize db1.set n ⟨setRow db1[n].rows ⟨id,vals⟩⟩=db2 at c5 hset⊢;generalize jaf s[n].key db1[n].rows[j].vals=wh1 at c2;generalize jaf s[n].key vals=wh2 at c3;generalize keyF s[n].key db1[n].rows[j].vals=kold at c2 c6⊢;generalize keyF s[n].key vals=knew at c3 c6 hkv hw⊢;by_cases hkk:kold=knew
     ·have hdb2:=hset;rw[show(kold==knew)=true from beq_iff_eq.2 hkk]at c6;rw[if_pos hkk,upd3,if_pos rfl];repeat' first|refine X ?_|((first|apply yG|apply yH|apply yI);exact rfl;(first|exact yax jb rfl hn1|exact yax jc rfl hj))|refine yaC (cc) ?_|refine yaC (c1) ?_|refine yaC (c2) ?_|refine yaC (c3) ?_|refine yaC (c4) ?_|refine yaC (c5) ?_|refine yaC (c6) ?_|exact yaF|refine Y ?_ ?_<;>intro _
      clear cc c1 c2 c3 c4 c5 c6;have hn4:n<db2.length:=by rw[hdb2.len];exact hn
      have hR4:=hdb2.rows n hn hn4;have c8:=zai db2[n] id (yaf hR4.len gb);rcases zl db2[n].rows id with⟨g1,g2⟩|⟨j2,hj2,g1,g2⟩
      ·have hlast:wbd s n id db2=(db2,0):=by rw[wbd,jf hn4,g2]
       rw[hlast];rw[g1]at c8;repeat' first|refine X ?_|((first|apply yG|apply yH|apply yI);exact rfl;(first|exact yax jb rfl hn4))|refine yaC (c8) ?_|exact yaF|refine Y ?_ ?_<;>intro _
       exact .ret rfl (Fin.same rfl (zg (db2,0) _))
      ·have hlast:wbd s n id db2=if(s[n].fks.any λf=>wq s db2 false db2[n].rows[j2].vals f)=true then([],5)else(db2,0):=by rw[wbd,jf hn4,g2,zr hn]
       rw[hlast];rw[g1]at c8;have c9:=wbu s db2 (n:Int) n db2[n].rows[j2].vals true (yaf hs.few gb) rfl hn ht.fk3 (fkR hs hdb2 hn (hR4.fit _ (yaa hj2)).1);have e9:s[n].fks.any (wq s db2 (!true) db2[n].rows[j2].vals)=s[n].fks.any λf=>wq s db2 false db2[n].rows[j2].vals f:=rfl;rw[e9]at c9;generalize (s[n].fks.any λf=>wq s db2 false db2[n].rows[j2].vals f)=B at c9⊢
       cases B
       ·rw[if_neg yah];repeat' first|refine X ?_|((first|apply yG|apply yH|apply yI);exact rfl;(first|exact yax jb rfl hn4|exact yax jc rfl hj2))|refine yaC (c8) ?_|refine yaC (c9) ?_|exact yaF|refine Y ?_ ?_<;>intro _
        exact .ret rfl (Fin.same rfl (zg (db2,0) _))
       ·rw[if_pos rfl];repeat' first|refine X ?_|((first|apply yG|apply yH|apply yI);exact rfl;(first|exact yax jb rfl hn4|exact yax jc rfl hj2))|refine yaC (c8) ?_|refine yaC (c9) ?_|exact yaF|refine Y ?_ ?_<;>intro _
        exact .ret rfl (Fin.same rfl (zg ([],5) _))
     ·rw[show(kold==knew)=false from beq_eq_false_iff_ne.2 hkk]at c6;rw[if_neg hkk];have c7:=wcm hs hr hn kold knew false _ hw hkv db2 hset;have hkq:=λ(h4:(jz run s n kold knew false db2).2=0)=>zbj (n:=n) (key:=kold) (gone:=false) hr.keeps hkv hset h4;generalize jz run s n kold knew false db2=q at c7 hkq⊢;rw[upd3];by_cases hq:q.2=0
      ·rw[jaj hq]at c7;rw[if_pos hq];have hdb3:=hkq hq;generalize q.1=db3 at c7 hdb3⊢;repeat' first|refine X ?_|((first|apply yG|apply yH|apply yI);exact rfl;(first|exact yax jb rfl hn1|exact yax jc rfl hj))|refine yaC (cc) ?_|refine yaC (c1) ?_|refine yaC (c2) ?_|refine yaC (c3) ?_|refine yaC (c4) ?_|refine yaC (c5) ?_|refine yaC (c6) ?_|refine yaC (c7) ?_|exact yaF|refine Y ?_ ?_<;>intro _
       clear cc c1 c2 c3 c4 c5 c6 c7;have hn4:n<db3.length:=by rw[hdb3.len];exact hn
       have hR4:=hdb3.rows n hn hn4;have c8:=zai db3[n] id (yaf hR4.len gb);rcases zl db3[n].rows id with⟨g1,g2⟩|⟨j2,hj2,g1,g2⟩
       ·have hlast:wbd s n id db3=(db3,0):=by rw[wbd,jf hn4,g2]
        rw[hlast];rw[g1]at c8;repeat' first|refine X ?_|((first|apply yG|apply yH|apply yI);exact rfl;(first|exact yax jb rfl hn4))|refine yaC (c8) ?_|exact yaF|refine Y ?_ ?_<;>intro _
        exact .ret rfl (Fin.same rfl (zg (db3,0) _))
       ·have hlast:wbd s n id db3=if(s[n].fks.any λf=>wq s db3 false db3[n].rows[j2].vals f)=true then([],5)else(db3,0):=by rw[wbd,jf hn4,g2,zr hn]
        rw[hlast];rw[g1]at c8;have c9:=wbu s db3 (n:Int) n db3[n].rows[j2].vals true (yaf hs.few gb) rfl hn ht.fk3 (fkR hs hdb3 hn (hR4.fit _ (yaa hj2)).1);have e9:s[n].fks.any (wq s db3 (!true) db3[n].rows[j2].vals)=s[n].fks.any λf=>wq s db3 false db3[n].rows[j2].vals f:=rfl;rw[e9]at c9;generalize (s[n].fks.any λf=>wq s db3 false db3[n].rows[j2].vals f)=B at c9⊢
        cases B
        ·rw[if_neg yah];repeat' first|refine X ?_|((first|apply yG|apply yH|apply yI);exact rfl;(first|exact yax jb rfl hn4|exact yax jc rfl hj2))|refine yaC (c8) ?_|refine yaC (c9) ?_|exact yaF|refine Y ?_ ?_<;>intro _
         exact .ret rfl (Fin.same rfl (zg (db3,0) _))
        ·rw[if_pos rfl];repeat' first|refine X ?_|((first|apply yG|apply yH|apply yI);exact rfl;(first|exact yax jb rfl hn4|exact yax jc rfl hj2))|refine yaC (c8) ?_|refine yaC (c9) ?_|exact yaF|refine Y ?_ ?_<;>intro _
         exact .ret rfl (Fin.same rfl (zg ([],5) _))
      ·obtain⟨e,he⟩:∃e,q.2=e:=⟨_,rfl⟩;rw[he]at hq;rw[waf he hq]at c7;rw[he,if_neg hq];repeat' first|refine X ?_|((first|apply yG|apply yH|apply yI);exact rfl;(first|exact yax jb rfl hn1|exact yax jc rfl hj))|refine yaC (cc) ?_|refine yaC (c1) ?_|refine yaC (c2) ?_|refine yaC (c3) ?_|refine yaC (c4) ?_|refine yaC (c5) ?_|refine yaC (c6) ?_|refine yaC (c7) ?_|exact yaF|refine Y ?_ ?_<;>intro _
       exact .ret rfl (Fin.same (jan hq).symm (zg ([],e) _))
   ·obtain⟨e,he⟩:∃e,c.2=e:=⟨_,rfl⟩;rw[he]at hc0;rw[waf he hc0]at cc;rw[upd1,he,if_neg hc0];repeat' first|refine X ?_|refine yaC (cc) ?_|exact yaF|refine Y ?_ ?_<;>intro _
    exact .ret rfl (Fin.same (jan hc0).symm (zg ([],e) _))
  ·rw[if_neg hab];generalize zcd s[n] vals=e at ca hab⊢;repeat' first|refine X ?_|refine yaC (ca) ?_|exact yaF|refine Y ?_ ?_<;>intro _
   exact .ret rfl (Fin.same (jan hab).symm (zg ([],e) _))
 ·rw[hrp]at hvv;simp only[if_true]at hvv;rw[if_pos rfl];generalize jl s[n] 0 vals0=vals at cF hvv⊢;repeat' first|refine X ?_|((first|apply yG|apply yH|apply yI);exact rfl;(first|exact yax ja rfl hn))|refine yaC (cF) ?_|exact yaF|refine Y ?_ ?_<;>intro _
  have ca:=jeu s[n] vals hvv.1 ht hvv.2;by_cases hab:zcd s[n] vals=0
  ·rw[hab]at ca;rw[if_pos hab];repeat' first|refine X ?_|refine yaC (ca) ?_|exact yaF|refine Y ?_ ?_<;>intro _
   clear ca;have cc:=wdv hs hr hn ⟨id,vals⟩ hvv.1 rep db h;have hkc:=λ(h2:(wad run s[n] n ⟨id,vals⟩ rep db).2=0)=>zbv hr.keeps hn (t:=s[n]) (x:=⟨id,vals⟩) (rep:=rep) h h2;rw[hrp]at cc hkc;generalize wad run s[n] n ⟨id,vals⟩ _ db=c at cc hkc⊢;by_cases hc0:c.2=0
   ·rw[jaj hc0]at cc;have hdb:=hkc hc0;have hup:∀old,wav (jv c.1 n) id=some old->upd1 run s n id vals c=upd3 s n id (upd2 run s n id vals old c.1):=λold ho=>by rw[upd1,if_pos hc0,ho]
    have hup0:wav (jv c.1 n) id=none->upd1 run s n id vals c=([],9):=λho=>by rw[upd1,if_pos hc0,ho]
    generalize upd1 run s n id vals c=U at hup hup0⊢;generalize c.1=db1 at cc hdb hup hup0;clear hkc;have hn1:n<db1.length:=by rw[hdb.len];exact hn
    have hR1:=hdb.rows n hn hn1;rw[jf hn1]at hup hup0;have c1:=zai db1[n] id (yaf hR1.len gb);rcases zl db1[n].rows id with⟨hx1,hx2⟩|⟨j,hj,hx1,hx2⟩
    ·rw[hx1]at c1;rw[hup0 hx2];repeat' first|refine X ?_|((first|apply yG|apply yH|apply yI);exact rfl;(first|exact yax jb rfl hn1))|refine yaC (cc) ?_|refine yaC (c1) ?_|exact yaF|refine Y ?_ ?_<;>intro _
     exact .ret rfl (Fin.same rfl (zg ([],9) _))
    ·rw[hx1]at c1;rw[hup _ hx2];clear hup hup0;have hfit:=hR1.fit _ (yaa hj);have hidx:db1[n].rows[j].id=id:=(z8 hx2).2;have c2:=wbp s[n].key db1[n].rows[j].vals hb.2.2.1 (by rw[hfit.1];exact ht.key);have c3:=wbp s[n].key vals hb.2.2.1 (by rw[hvv.1];exact ht.key);have c4:=zgs db1[n] ⟨id,vals⟩ hR1.len;rw[wgr hR1.rise ⟨_,yaa hj,hidx⟩]at c4;have c5:=wd9 db1 (n:Int) n ⟨setRow db1[n].rows ⟨id,vals⟩⟩ rfl hn1 (by rw[hdb.len];exact yaf hs.few gb);have c6:=zbp (keyF s[n].key db1[n].rows[j].vals) (keyF s[n].key vals) (by rw[wa6];exact hb.2.2.1);have hset:DbG I s (db1.set n ⟨setRow db1[n].rows ⟨id,vals⟩⟩):=hdb.set hn (hR1.set (x:=⟨id,vals⟩) hvv);rw[upd2,zr hn,jf hn1];have hkv:=zea ht hvv.1 hvv.2;have hw:With false (.fz ((keyF s[n].key vals).map encV)) (keyF s[n].key vals) s[n].key.length:=.now (by rw[wa6];exact yai _);generalize db1.set n ⟨setRow db1[n].rows ⟨id,vals⟩⟩=db2 at c5 hset⊢;generalize jaf s[n].key db1[n].rows[j].vals=wh1 at c2;generalize jaf s[n].key vals=wh2 at c3;generalize keyF s[n].key db1[n].rows[j].vals=kold at c2 c6⊢;generalize keyF s[n].key vals=knew at c3 c6 hkv hw⊢;by_cases hkk:kold=knew
     ·have hdb2:=hset;rw[show(kold==knew)=true from beq_iff_eq.2 hkk]at c6;rw[if_pos hkk,upd3,if_pos rfl];repeat' first|refine X ?_|((first|apply yG|apply yH|apply yI);exact rfl;(first|exact yax jb rfl hn1|exact yax jc rfl hj))|refine yaC (cc) ?_|refine yaC (c1) ?_|refine yaC (c2) ?_|refine yaC (c3) ?_|refine yaC (c4) ?_|refine yaC (c5) ?_|refine yaC (c6) ?_|exact yaF|refine Y ?_ ?_<;>intro _
      clear cc c1 c2 c3 c4 c5 c6;have hn4:n<db2.length:=by rw[hdb2.len];exact hn
      have hR4:=hdb2.rows n hn hn4;have c8:=zai db2[n] id (yaf hR4.len gb);rcases zl db2[n].rows id with⟨g1,g2⟩|⟨j2,hj2,g1,g2⟩
      ·have hlast:wbd s n id db2=(db2,0):=by rw[wbd,jf hn4,g2]
       rw[hlast];rw[g1]at c8;repeat' first|refine X ?_|((first|apply yG|apply yH|apply yI);exact rfl;(first|exact yax jb rfl hn4))|refine yaC (c8) ?_|exact yaF|refine Y ?_ ?_<;>intro _
       exact .ret rfl (Fin.same rfl (zg (db2,0) _))
      ·have hlast:wbd s n id db2=if(s[n].fks.any λf=>wq s db2 false db2[n].rows[j2].vals f)=true then([],5)else(db2,0):=by rw[wbd,jf hn4,g2,zr hn]
       rw[hlast];rw[g1]at c8;have c9:=wbu s db2 (n:Int) n db2[n].rows[j2].vals true (yaf hs.few gb) rfl hn ht.fk3 (fkR hs hdb2 hn (hR4.fit _ (yaa hj2)).1);have e9:s[n].fks.any (wq s db2 (!true) db2[n].rows[j2].vals)=s[n].fks.any λf=>wq s db2 false db2[n].rows[j2].vals f:=rfl;rw[e9]at c9;generalize (s[n].fks.any λf=>wq s db2 false db2[n].rows[j2].vals f)=B at c9⊢
       cases B
       ·rw[if_neg yah];repeat' first|refine X ?_|((first|apply yG|apply yH|apply yI);exact rfl;(first|exact yax jb rfl hn4|exact yax jc rfl hj2))|refine yaC (c8) ?_|refine yaC (c9) ?_|exact yaF|refine Y ?_ ?_<;>intro _
        exact .ret rfl (Fin.same rfl (zg (db2,0) _))
       ·rw[if_pos rfl];repeat' first|refine X ?_|((first|apply yG|apply yH|apply yI);exact rfl;(first|exact yax jb rfl hn4|exact yax jc rfl hj2))|refine yaC (c8) ?_|refine yaC (c9) ?_|exact yaF|refine Y ?_ ?_<;>intro _
        exact .ret rfl (Fin.same rfl (zg ([],5) _))
     ·rw[show(kold==knew)=false from beq_eq_false_iff_ne.2 hkk]at c6;rw[if_neg hkk];have c7:=wcm hs hr hn kold knew false _ hw hkv db2 hset;have hkq:=λ(h4:(jz run s n kold knew false db2).2=0)=>zbj (n:=n) (key:=kold) (gone:=false) hr.keeps hkv hset h4;generalize jz run s n kold knew false db2=q at c7 hkq⊢;rw[upd3];by_cases hq:q.2=0
      ·rw[jaj hq]at c7;rw[if_pos hq];have hdb3:=hkq hq;generalize q.1=db3 at c7 hdb3⊢;repeat' first|refine X ?_|((first|apply yG|apply yH|apply yI);exact rfl;(first|exact yax jb rfl hn1|exact yax jc rfl hj))|refine yaC (cc) ?_|refine yaC (c1) ?_|refine yaC (c2) ?_|refine yaC (c3) ?_|refine yaC (c4) ?_|refine yaC (c5) ?_|refine yaC (c6) ?_|refine yaC (c7) ?_|exact yaF|refine Y ?_ ?_<;>intro _
       clear cc c1 c2 c3 c4 c5 c6 c7;have hn4:n<db3.length:=by rw[hdb3.len];exact hn
       have hR4:=hdb3.rows n hn hn4;have c8:=zai db3[n] id (yaf hR4.len gb);rcases zl db3[n].rows id with⟨g1,g2⟩|⟨j2,hj2,g1,g2⟩
       ·have hlast:wbd s n id db3=(db3,0):=by rw[wbd,jf hn4,g2]
        rw[hlast];rw[g1]at c8;repeat' first|refine X ?_|((first|apply yG|apply yH|apply yI);exact rfl;(first|exact yax jb rfl hn4))|refine yaC (c8) ?_|exact yaF|refine Y ?_ ?_<;>intro _
        exact .ret rfl (Fin.same rfl (zg (db3,0) _))
       ·have hlast:wbd s n id db3=if(s[n].fks.any λf=>wq s db3 false db3[n].rows[j2].vals f)=true then([],5)else(db3,0):=by rw[wbd,jf hn4,g2,zr hn]
        rw[hlast];rw[g1]at c8;have c9:=wbu s db3 (n:Int) n db3[n].rows[j2].vals true (yaf hs.few gb) rfl hn ht.fk3 (fkR hs hdb3 hn (hR4.fit _ (yaa hj2)).1);have e9:s[n].fks.any (wq s db3 (!true) db3[n].rows[j2].vals)=s[n].fks.any λf=>wq s db3 false db3[n].rows[j2].vals f:=rfl;rw[e9]at c9;generalize (s[n].fks.any λf=>wq s db3 false db3[n].rows[j2].vals f)=B at c9⊢
        cases B
        ·rw[if_neg yah];repeat' first|refine X ?_|((first|apply yG|apply yH|apply yI);exact rfl;(first|exact yax jb rfl hn4|exact yax jc rfl hj2))|refine yaC (c8) ?_|refine yaC (c9) ?_|exact yaF|refine Y ?_ ?_<;>intro _
         exact .ret rfl (Fin.same rfl (zg (db3,0) _))
        ·rw[if_pos rfl];repeat' first|refine X ?_|((first|apply yG|apply yH|apply yI);exact rfl;(first|exact yax jb rfl hn4|exact yax jc rfl hj2))|refine yaC (c8) ?_|refine yaC (c9) ?_|exact yaF|refine Y ?_ ?_<;>intro _
         exact .ret rfl (Fin.same rfl (zg ([],5) _))
      ·obtain⟨e,he⟩:∃e,q.2=e:=⟨_,rfl⟩;rw[he]at hq;rw[waf he hq]at c7;rw[he,if_neg hq];repeat' first|refine X ?_|((first|apply yG|apply yH|apply yI);exact rfl;(first|exact yax jb rfl hn1|exact yax jc rfl hj))|refine yaC (cc) ?_|refine yaC (c1) ?_|refine yaC (c2) ?_|refine yaC (c3) ?_|refine yaC (c4) ?_|refine yaC (c5) ?_|refine yaC (c6) ?_|refine yaC (c7) ?_|exact yaF|refine Y ?_ ?_<;>intro _
       exact .ret rfl (Fin.same (jan hq).symm (zg ([],e) _))
   ·obtain⟨e,he⟩:∃e,c.2=e:=⟨_,rfl⟩;rw[he]at hc0;rw[waf he hc0]at cc;rw[upd1,he,if_neg hc0];repeat' first|refine X ?_|refine yaC (cc) ?_|exact yaF|refine Y ?_ ?_<;>intro _
    exact .ret rfl (Fin.same (jan hc0).symm (zg ([],e) _))
  ·rw[if_neg hab];generalize zcd s[n] vals=e at ca hab⊢;repeat' first|refine X ?_|refine yaC (ca) ?_|exact yaF|refine Y ?_ ?_<;>intro _
   exact .ret rfl (Fin.same (jan hab).symm (zg ([],e) _))
theorem jkd{s:List zd}(hs:SchG s):∀(k:Nat) (deep:Int),-1<=deep->deep+k=13->weu I s (chgF s k) deep
 |0,deep,hk,hd=>by
  have hd2:deep>12:=O;refine⟨zbe hs 0,λn id db x h hn hx=>?_,λn id vals rep db h ho=>?_⟩
  ·refine yas jb1 λG=>?_;repeat' first|refine X ?_|exact yaF|refine Y ?_ ?_<;>intro _
   exact .ret rfl (Fin.same rfl (zg ([],6) _))
  ·refine yas wb1 λG=>?_;repeat' first|refine X ?_|exact yaF|refine Y ?_ ?_<;>intro _
   exact .ret rfl (Fin.same rfl (zg ([],6) _))
 |k+1,deep,hk,hd=>by
  ·have hr:=jkd hs k (IntKind.i64.wrap (deep+1)) (by rw[jg O O];omega) (by rw[jg O O];omega);refine⟨zbe hs (k+1),λn id db x h hn hx=>?_,λn id vals rep db h ho=>?_⟩
   ·have h1:=wkc hs hr O hn id db x h hx;have h2:chgF s (k+1) (.del n id) db=jz (chgF s k) s n (keyF s[n].key x.vals) [] true (db.set n ⟨w8 (jv db n) id⟩):=by rw[chgF,hx,zr hn]
    rw[h2];exact h1
   ·obtain⟨hn,hl,hv⟩:=ho;have h1:=zkd hs hr O hn id vals rep db h hl hv;have h2:chgF s (k+1) (.upd n id vals rep) db=updF (chgF s k) s n id (if rep then jl s[n] 0 vals else vals) rep db:=by rw[chgF,zr hn]
    rw[h2];exact h1
end Go.Proofs.YtedaadaaibofaaaGreat.Am
namespace Go.Proofs.YtedaadaaibofaaaGreat.Am
variable {I:Nat->Int->Prop}

set_option maxHeartbeats 4000000 in
theorem jl5{L:ChL}{n:Nat}{s:List zd}{run:Chg->List Data->Res}{deep:Int}(hs:SchG s)(hr:jhm I L n s run (IntKind.i64.wrap (deep+1)))(hd:deep<=12){k:Nat}(hk:k<s.length)(id:Int)(vals0:List Val)(rep:Bool)(db:List Data)(xs:List Ce)(V:wa)(h:ww L n s xs db V)(hdb:DbG I s db)
 (hl:vals0.length=s[k].cols.length) (hv:jt vals0 16=true):
 Ok Tryz.prog 283 [.c (.ptr L.c L.vc 0 0),.c (.int .i64 (k:Int)),.c (.int .i64 id),.c (.fz (vals0.map encV)),.c (.bool rep),.c (.int .i64 deep)] V (Done L n s (updF run s k id (if rep then jl s[k] 0 vals0 else vals0) rep db) V):=by
 refine Ok.run0 mixed wa2 gz λhS hA=>?_;clear hS hA;have hk2:k<db.length:=by rw[hdb.len];exact hk
 have hk3:k<xs.length:=by rw[h.len];exact hk2
 have ht:=hs.tab _ (yaa hk);have hb:=hs.big _ (yaa hk);have hne:∀{l:List Val},l.length=s[k].cols.length->l≠[]:=λh1 h0=>by
  rw[h0]at h1;have:=ht.cols0;simp at h1;omega
 have cF:=wjh s[k] vals0 hl (hne hl) ht.cols8;have hvv:=whk hs hk hl hv rep;rw[updF,zr hk];have hn0:V.next<=V.next:=yai _;repeat' first|refine X ?_|fail
 refine Go.iteD rfl (λh=>absurd h O) λ_=>?_;repeat' first|refine X ?_|((first|apply yG|apply yH|apply yI);exact rfl;(first|exact jbv h rfl|exact yax ja rfl hk))
 refine Go.meet (K':=[_]) (λfr V'=>V'=V/\∃vals,vals=(if rep then jl s[k] 0 vals0 else vals0)/\fr=[(0,AV.c (.ptr L.c L.vc 0 0)),(1,.c (.int .i64 (k:Int))),(2,.c (.int .i64 id)),(3,.c (.fz (vals.map encV))),(4,.c (.bool rep)),(5,.c (.int .i64 deep)),(13,.c (.fp (ja s[k])))]) ?_ ?_
 ·intro K hrec
  cases rep
  ·repeat' first|refine X ?_|exact yaF|refine Y ?_ ?_<;>intro _
   exact Go.keep [0,1,2,3,4,5,13] (hrec _ _ ⟨rfl,_,rfl,rfl⟩)
  ·repeat' first|refine X ?_|refine yaC (cF) ?_|exact yaF|refine Y ?_ ?_<;>intro _
   exact Go.keep [0,1,2,3,4,5,13] (hrec _ _ ⟨rfl,_,rfl,rfl⟩)
 rintro fr V' ⟨hτ,vals,hve,rfl⟩;rw[hτ];rw[<-hve]at hvv⊢;clear cF hl hv hve hτ;have ca:=whm s[k] vals hvv.1 ht hb;by_cases hab:zcd s[k] vals=0
 ·rw[hab]at ca;rw[if_pos hab];repeat' first|refine X ?_|refine yaC (ca) ?_|exact yaF|refine Y ?_ ?_<;>intro _
  clear ca;have cc:=zkq hs hr hk id vals hvv.1 rep db xs V h hdb;have hkc:=λ(h2:(wad run s[k] k ⟨id,vals⟩ rep db).2=0)=>zbv hr.keeps hk (t:=s[k]) (x:=⟨id,vals⟩) (rep:=rep) hdb h2;generalize wad run s[k] k ⟨id,vals⟩ rep db=c at cc hkc⊢;refine .call _ rfl rfl rfl cc ?_;rintro r9 V1 ⟨hr9,hk1,hq1⟩;rw[hr9];clear cc hr9;by_cases hc0:c.2=0
  ·obtain⟨xs1,hH1⟩:=hq1 hc0;have hdb1:=hkc hc0;have hup:∀old,wav (jv c.1 k) id=some old->upd1 run s k id vals c=upd3 s k id (upd2 run s k id vals old c.1):=λold ho=>by rw[upd1,if_pos hc0,ho]
   have hup0:wav (jv c.1 k) id=none->upd1 run s k id vals c=([],9):=λho=>by rw[upd1,if_pos hc0,ho]
   generalize upd1 run s k id vals c=U at hup hup0⊢;generalize c.1=db1 at hdb1 hup hup0 hH1;rw[hc0];clear hkc hq1;have hn1:k<db1.length:=by rw[hdb1.len];exact hk
   have hn2:k<xs1.length:=by rw[hH1.len];exact hn1
   have hR1:=hdb1.rows k hk hn1;rw[jf hn1]at hup hup0;have cf:=jdv hH1 hn1 hn2 id hR1.len;repeat' first|refine X ?_|exact yaF|refine Y ?_ ?_<;>intro _
   rcases zl db1[k].rows id with⟨hx1,hx2⟩|⟨j,hj,hx1,hx2⟩
   ·rw[hup0 hx2];refine .call _ rfl rfl rfl (cf.1 hx2) ?_;rintro r9 V9 ⟨hr9,ht9⟩;rw[hr9,ht9];repeat' first|refine X ?_|exact yaF|refine Y ?_ ?_<;>intro _
    exact .ret rfl ⟨rfl,hk1,λh=>by cases h⟩
   ·rw[hup _ hx2];clear hup hup0;have hfit:=hR1.fit _ (yaa hj);have hidx:db1[k].rows[j].id=id:=(z8 hx2).2;obtain⟨lab2,ps2,id2,v2,junk2,hat,hl2⟩:=hH1.some hn1 hn2 (Nat.lt_of_le_of_lt (yad _) hj);obtain⟨_,q1,q2,q3,q4⟩:=hat.own;have ck1:=Lend.fresh (.same (.own (hat.frz hj) .nil)) (zgo s[k].key db1[k].rows[j].vals hb.2.2.1 (by rw[hfit.1];exact ht.key));have ck2:=wfm s[k].key vals hb.2.2.1 (by rw[hvv.1];exact ht.key);have c6:=ze0 (keyF s[k].key db1[k].rows[j].vals) (keyF s[k].key vals) (by rw[wa6];exact hb.2.2.1);have hkv:=zea ht hvv.1 hvv.2;have hw:With false (.fz ((keyF s[k].key vals).map encV)) (keyF s[k].key vals) s[k].key.length:=.now (by rw[wa6];exact yai _);have hw0:=hs.key0 _ (yaa hk);refine .call _ rfl rfl rfl (cf.2 j hj hx1 _ _ _ _ _ hat) ?_;rintro r9 V9 ⟨hr9,ht9⟩;rw[hr9,ht9];clear hr9 ht9;repeat' first|apply Go.seq|apply Go.skip|apply Go.region|apply Go.nil|apply Go.block|apply Go.blk|apply Go.segs|(apply Go.exit;exact rfl)|(apply Go.cond true;exact rfl)|(apply Go.cond false;exact rfl)|apply yB|apply yC|((first|apply yD|apply yE);(first|exact yF|assumption);iterate 6 exact rfl)|((first|apply yG|apply yH|apply yI);exact rfl;(first|exact yJ|exact yK rfl rfl|exact yL rfl|exact yM rfl|exact rfl|exact aL rfl rfl rfl rfl rfl|exact aS rfl rfl rfl rfl rfl rfl rfl))|((first|apply yN|apply yO|apply yP);exact rfl)|exact yaF|(((first|apply yT|apply yU|apply yV|apply yW);exact rfl;(first|exact .d|exact .e|exact .n|((fail_if_success exact bqt);(fail_if_success exact bqf);exact .b)))<;>intro _)
    apply Go.draw;repeat' first|apply Go.seq|apply Go.skip|apply Go.region|apply Go.nil|apply Go.block|apply Go.blk|apply Go.segs|(apply Go.exit;exact rfl)|(apply Go.cond true;exact rfl)|(apply Go.cond false;exact rfl)|apply yB|apply yC|((first|apply yD|apply yE);(first|exact yF|assumption);iterate 6 exact rfl)|((first|apply yG|apply yH|apply yI);exact rfl;(first|exact yJ|exact yK rfl rfl|exact yL rfl|exact yM rfl|exact rfl|exact aL rfl rfl rfl rfl rfl|exact aS rfl rfl rfl rfl rfl rfl rfl|exact wm rfl hat.get (hat.at hj) (yao _)))|((first|apply yN|apply yO|apply yP);exact rfl)|exact yaF|(((first|apply yT|apply yU|apply yV|apply yW);exact rfl;(first|exact .d|exact .e|exact .n|((fail_if_success exact bqt);(fail_if_success exact bqf);exact .b)))<;>intro _)
    refine Go.scall _ rfl rfl rfl ck1 ?_;rintro r9 V9 ⟨hr9,ht9⟩;rw[hr9,ht9];clear hr9 ht9 ck1;rw[upd2,zr hk,jf hn1];have hset:DbG I s (db1.set k ⟨setRow db1[k].rows ⟨id,vals⟩⟩):=hdb1.set hk (hR1.set (x:=⟨id,vals⟩) hvv);generalize jaf s[k].key db1[k].rows[j].vals=wh1;generalize jaf s[k].key vals=wh2 at ck2;generalize keyF s[k].key db1[k].rows[j].vals=kold at c6⊢;generalize keyF s[k].key vals=knew at c6 ck2 hkv hw⊢;repeat' first|refine X ?_|refine yaC (ck2) ?_|exact yaF|refine Y ?_ ?_<;>intro _
    clear ck2;refine .call _ rfl rfl rfl (zat vals (hne hvv.1) (yaf (zf.1 hvv.2).1 gb) V1) ?_;rintro r9 V9 ⟨v9,junk9,hj9,hr9,ht9⟩;rw[hr9,ht9];clear hr9 ht9;have hge:(E V1 [(v9,vals.map encV++junk9)]).get id2=some (v2,ps2.map encP++junk2):=(E_lt q2).trans hat.get;have hH2:=hat.set hH1 hn1 hn2 hl2 hR1.rise hj hidx vals (v:=v9) hj9;have hK2:Kept n V1 ((E V1 [(v9,vals.map encV++junk9)]).put id2 (v2,(ps2.map encP++junk2).set (0+j) (zj (encP (ps2[j]'(by rw[hat.len];exact hj))) 1 [vec (V1.next+0) v9 (vals.map encV) junk9]))):=(Kept.ofE hH1.le _).trans (.put q1);repeat' first|refine X ?_|((first|apply yG|apply yH|apply yI);exact rfl;(first|exact zk rfl rfl hge (hat.at hj) (yao _)))|exact yaF|refine Y ?_ ?_<;>intro _
    obtain⟨V2,hτ2⟩:∃V2,V2=(E V1 [(v9,vals.map encV++junk9)]).put id2 (v2,(ps2.map encP++junk2).set (0+j) (zj (encP (ps2[j]'(by rw[hat.len];exact hj))) 1 [vec (V1.next+0) v9 (vals.map encV) junk9])):=⟨_,rfl⟩;refine Go.ext ?_ hτ2;rw[<-hτ2]at hH2 hK2;clear hτ2 hl2 cf;generalize db1.set k ⟨setRow db1[k].rows ⟨id,vals⟩⟩=db2 at hset hH2⊢;obtain⟨U2,hU2⟩:∃U2,U2=upd3 s k id (if kold=knew then(db2,0)else jz run s k kold knew false db2):=⟨_,rfl⟩;rw[<-hU2];have hK3:=hk1.trans hK2;repeat' first|refine X ?_|refine yaC (c6) ?_|fail
    refine Go.meet (K':=[_]) (λfr V'=>∃db3 xs3,U2=wbd s k id db3/\DbG I s db3/\ww L n s xs3 db3 V'/\Kept n V V'/\fr=[(0,AV.c (.ptr L.c L.vc 0 0)),(1,.c (.int .i64 (k:Int))),(2,.c (.int .i64 id)),(13,.c (.fp (ja s[k])))]) ?_ ?_
    ·intro K hrec;by_cases hkk:kold=knew
     ·rw[show(kold==knew)=true from beq_iff_eq.2 hkk];repeat' first|refine X ?_|exact yaF|refine Y ?_ ?_<;>intro _
      exact Go.keep [0,1,2,13] (hrec _ _ ⟨db2,xs1,by rw[hU2,upd3,if_pos hkk,if_pos rfl],hset,hH2,hK3,rfl⟩)
     ·rw[show(kold==knew)=false from beq_eq_false_iff_ne.2 hkk];rw[if_neg hkk]at hU2;have cw:=jjh hs hr hk kold knew false _ hw hkv hw0 db2 xs1 V2 hH2 hset;have hkq:=λ(h4:(jz run s k kold knew false db2).2=0)=>zbj (n:=k) (key:=kold) (gone:=false) hr.keeps hkv hset h4;generalize jz run s k kold knew false db2=q at cw hkq hU2;rw[upd3]at hU2;repeat' first|refine X ?_|exact yaF|refine Y ?_ ?_<;>intro _
      refine .call _ rfl rfl rfl cw ?_;rintro r9 V9 ⟨hr9,hk9,hq9⟩;rw[hr9];clear hr9 cw;by_cases hq:q.2=0
      ·rw[if_pos hq]at hU2;obtain⟨xs9,hH9⟩:=hq9 hq;rw[hq];repeat' first|refine X ?_|exact yaF|refine Y ?_ ?_<;>intro _
       exact Go.keep [0,1,2,13] (hrec _ _ ⟨q.1,xs9,hU2,hkq hq,hH9,hK3.trans hk9,rfl⟩)
      ·rw[if_neg hq]at hU2;rw[hU2];generalize q.2=e at hq⊢;repeat' first|refine X ?_|exact yaF|refine Y ?_ ?_<;>intro _
       exact .ret rfl ⟨rfl,hK3.trans hk9,λh=>absurd h hq⟩
    rintro fr V3 ⟨db3,xs3,hUl,hdb3,hH3,hK4,rfl⟩;rw[hUl];clear hUl hU2 hK3 hH2 hset c6 hw hkv hK2 hH1 hdb1 hR1;have hn4:k<db3.length:=by rw[hdb3.len];exact hk
    have hn5:k<xs3.length:=by rw[hH3.len];exact hn4
    have hR4:=hdb3.rows k hk hn4;have cf3:=jdv hH3 hn4 hn5 id hR4.len;repeat' first|refine X ?_|exact yaF|refine Y ?_ ?_<;>intro _
    rcases zl db3[k].rows id with⟨g1,g2⟩|⟨j2,hj2,g1,g2⟩
    ·have hlast:wbd s k id db3=(db3,0):=by rw[wbd,jf hn4,g2]
     rw[hlast];refine .call _ rfl rfl rfl (cf3.1 g2) ?_;rintro r9 V9 ⟨hr9,ht9⟩;rw[hr9,ht9];repeat' first|refine X ?_|exact yaF|refine Y ?_ ?_<;>intro _
     exact .ret rfl ⟨rfl,hK4,λ_=>⟨xs3,hH3⟩⟩
    ·have hlast:wbd s k id db3=if(s[k].fks.any λf=>wq s db3 false db3[k].rows[j2].vals f)=true then([],5)else(db3,0):=by rw[wbd,jf hn4,g2,zr hk]
     rw[hlast];obtain⟨lab3,ps3,id3,v3,junk3,hat3,hl3⟩:=hH3.some hn4 hn5 (Nat.lt_of_le_of_lt (yad _) hj2);have c9:=je2 s db3 s[k] db3[k].rows[j2].vals false (yaf hs.few gb) (yaf ht.fk3 gb) (fkR hs hdb3 hk (hR4.fit _ (yaa hj2)).1);have e9:s[k].fks.any (wq s db3 false db3[k].rows[j2].vals)=s[k].fks.any λf=>wq s db3 false db3[k].rows[j2].vals f:=rfl;rw[e9]at c9;generalize (s[k].fks.any λf=>wq s db3 false db3[k].rows[j2].vals f)=B at c9⊢;refine .call _ rfl rfl rfl (cf3.2 j2 hj2 g1 _ _ _ _ _ hat3) ?_;rintro r9 V9 ⟨hr9,ht9⟩;rw[hr9,ht9];clear hr9 ht9;repeat' first|refine X ?_|((first|apply yG|apply yH|apply yI);exact rfl;(first|exact jbv hH3 rfl|exact wcq hH3 rfl|exact wm rfl hat3.get (hat3.at hj2) (yao _)))|exact yaF|refine Y ?_ ?_<;>intro _
     refine Go.slcall rfl rfl rfl c9 (.bool _) (.same (.own hH3.frz (.same (.own (hat3.frz hj2) (.same .nil))))) ?_
     cases B
     ·rw[if_neg yah];repeat' first|refine X ?_|exact yaF|refine Y ?_ ?_<;>intro _
      exact .ret rfl ⟨rfl,hK4,λ_=>⟨xs3,hH3⟩⟩
     ·rw[if_pos rfl];repeat' first|refine X ?_|exact yaF|refine Y ?_ ?_<;>intro _
      exact .ret rfl ⟨rfl,hK4,λh=>by cases h⟩
  ·obtain⟨e,he⟩:∃e,c.2=e:=⟨_,rfl⟩;rw[he]at hc0⊢;rw[upd1,he,if_neg hc0];repeat' first|refine X ?_|exact yaF|refine Y ?_ ?_<;>intro _
   exact .ret rfl ⟨rfl,hk1,λh=>absurd h hc0⟩
 ·rw[if_neg hab];generalize zcd s[k] vals=e at ca hab⊢;repeat' first|refine X ?_|refine yaC (ca) ?_|exact yaF|refine Y ?_ ?_<;>intro _
  exact .ret rfl ⟨rfl,.refl,λh=>absurd h hab⟩
theorem wl5{L:ChL}{n:Nat}{s:List zd}(hs:SchG s):∀(k:Nat) (deep:Int),-1<=deep->deep+k=13->jhm I L n s (chgF s k) deep
 |0,deep,hk,hd=>by
  have hd2:deep>12:=O;refine⟨zbe hs 0,λk id db xs V h hdb hk=>?_,λk id vals rep db xs V h hdb ho=>?_⟩
  ·refine Ok.run0 mixed zax gz λhS hA=>?_;clear hS hA;repeat' first|refine X ?_|exact yaF|refine Y ?_ ?_<;>intro _
   exact .ret rfl ⟨rfl,.refl,λh=>by cases h⟩
  ·refine Ok.run0 mixed wa2 gz λhS hA=>?_;clear hS hA;repeat' first|refine X ?_|exact yaF|refine Y ?_ ?_<;>intro _
   exact .ret rfl ⟨rfl,.refl,λh=>by cases h⟩
 |k+1,deep,hk,hd=>by
  ·have hr:=wl5 (L:=L) (n:=n) hs k (IntKind.i64.wrap (deep+1)) (by rw[jg O O];omega) (by rw[jg O O];omega);refine⟨zbe hs (k+1),λm id db xs V h hdb hm=>?_,λm id vals rep db xs V h hdb ho=>?_⟩
   ·have h1:=jk9 hs hr O hm id db xs V h hdb;have h2:chgF s (k+1) (.del m id) db=delF (chgF s k) s m id db:=by
     rw[chgF,delF]
     cases wav (jv db m) id<;>rfl
    rw[h2];exact h1
   ·obtain⟨hm,hl,hv⟩:=ho;have h1:=jl5 hs hr O hm id vals rep db xs V h hdb hl hv;have h2:chgF s (k+1) (.upd m id vals rep) db=updF (chgF s k) s m id (if rep then jl s[m] 0 vals else vals) rep db:=by rw[chgF,zr hm]
    rw[h2];exact h1
end Go.Proofs.YtedaadaaibofaaaGreat.Am
namespace Go.Proofs.YtedaadaaibofaaaGreat.Am
def zji(n:Nat):Ce->Ce
 |.sl id v i m c=>if n<=id then .sl id v i m c else .any
 |.ptr id v i j=>if n<=id then .ptr id v i j else .any
 |.fz _=>.any
 |.fp _=>.any
 |.fn _ _ _=>.any
 |x=>x
variable {n:Nat}{x:Ce}
theorem zla:Tidy n (zji n x):=by
 cases x<;>simp only[zji]<;>(try split)<;>first|exact .sl _ _ _ _ _ (by assumption)|exact .ptr _ _ _ _ (by assumption)|exact .flat (by constructor)
theorem wm5(h:Tidy n x):zji n x=x:=by
 cases h with
 |flat h=>cases h<;>rfl
 |sl id v i m c h=>exact if_pos h
 |ptr id v i j h=>exact if_pos h
theorem Rp.blur{C:Cx}{v:Value}(h:Rp C x v):Rp C (zji n x) v:=by
 have h1:=h.one
 cases x<;>simp only[zji]<;>(try split)<;>first|exact h|exact .any _ h1.1 h1.2
def web(n:Nat)(es:List (List Ce)):List (List Ce):=es.map λe=>e.map (zji n)
def zc6(n:Nat)(V:wa):wa:=⟨V.next,λa=>if a<n then V.get a else(V.get a).map λy=>(y.1,web n y.2)⟩
variable {es:List (List Ce)}
theorem zl6:web n es=[]↔es=[]:=by simp[web]
theorem zm6(h:∀e∈es,∀x∈e,Tidy n x):web n es=es:=by
 have h1:∀e∈es,e.map (zji n)=e:=λe he=>by
  have:e.map (zji n)=e.map id:=List.map_congr_left λx hx=>wm5 (h e he x hx);rw[this,List.map_id]
 have:web n es=es.map id:=List.map_congr_left h1;rw[this,List.map_id]
variable {V:wa}{v:Nat}
theorem jc6{a:Nat}(h:(zc6 n V).get a=some (v,es)):∃es1,V.get a=some (v,es1)/\(es=es1\/es=web n es1):=by
 simp only[zc6]at h;split at h
 ·exact⟨es,h,.inl rfl⟩
 ·cases hg:V.get a with
  |none=>rw[hg]at h;cases h
  |some y=>
   rw[hg]at h
   cases h;exact⟨y.2,rfl,.inr rfl⟩
theorem jla{a:Nat}(h:V.get a=some (v,es)):∃es2,(zc6 n V).get a=some (v,es2)/\(es2=es\/es2=web n es):=by
 simp only[zc6];split
 ·exact⟨es,h,.inl rfl⟩
 ·rw[h];exact⟨_,rfl,.inr rfl⟩
theorem zev{es1:List (List Ce)}(h:es=es1\/es=web n es1):es=[]↔es1=[]:=by
 rcases h with rfl|rfl
 ·exact Iff.rfl
 ·exact zl6
theorem Rl.blur{C:Cx}(h:Rl C V)(n:Nat):Rl C (zc6 n V):=by
 refine⟨h.F,λid v es hg=>?_,λb=>?_,λid v es id' v' es' h1 n1 h2 n2 hb=>?_,λid v es hg hne=>?_⟩
 ·obtain⟨es1,g1,g2⟩:=jc6 hg;obtain⟨a1,a2,a3⟩:=h.live id v es1 g1;exact⟨a1,a2,a3.trans (zev g2).symm⟩
 ·rw[h.M];constructor
  ·rintro⟨id,v,es,hg,hne,hb⟩;obtain⟨es2,g1,g2⟩:=jla (n:=n) hg;exact⟨id,v,es2,g1,λe=>hne ((zev g2).1 e),hb⟩
  ·rintro⟨id,v,es,hg,hne,hb⟩;obtain⟨es1,g1,g2⟩:=jc6 hg;exact⟨id,v,es1,g1,λe=>hne ((zev g2).2 e),hb⟩
 ·obtain⟨e1,g1,g2⟩:=jc6 h1;obtain⟨e2,k1,k2⟩:=jc6 h2;exact h.inj id v e1 id' v' e2 g1 (λe=>n1 ((zev g2).2 e)) k1 (λe=>n2 ((zev k2).2 e)) hb
 ·obtain⟨es1,g1,g2⟩:=jc6 hg;obtain⟨cs,t,hb,hz,hl,hc⟩:=h.blk id v es1 g1 λe=>hne ((zev g2).2 e);rcases g2 with rfl|rfl
  ·exact⟨cs,t,hb,hz,hl,hc⟩
  ·refine⟨cs,t,hb,by simpa [web]using hz,λi hi=>?_,λi j hi hj=>?_⟩
   ·have hi2:i<es1.length:=by simpa [web]using hi
    have:=hl i hi2;simpa [web]using this
   ·have hi2:i<es1.length:=by simpa [web]using hi
    have hj2:j<es1[i].length:=by simpa [web]using hj
    obtain⟨u,h1,h2⟩:=hc i j hi2 hj2;refine⟨u,h1, ?_⟩;have:=h2.blur (n:=n);simpa [web]using this
variable {args:List AV}{G:wa}
theorem Ok.blur{P:Program}{f:Nat}{Q:AV->wa->Prop}(h:Ok P f args G Q)(n:Nat):Ok P f args G (λr V2=>∃V,Q r V/\OldS V/\V2=zc6 n V):=by
 refine⟨h.1,λC cargs hR ha=>(h.2 C cargs hR ha).mono ?_⟩;rintro e w' ⟨D,G1,r,v,rfl,rfl,hQ,hRD,hx,hle⟩;exact⟨D,zc6 n G1,r,v,rfl,rfl,⟨G1,hQ,hRD.old,rfl⟩,hRD.blur n,hx,hle⟩
variable {S:Nat->Prop}
theorem Has.blur{y:Ce}(h:Has V S y x){n:Nat}:(∀a,S a->n<=a)->Has (zc6 n V) S y x:=by
 induction h with
 |c h=>exactλ_=>.c h
 |nil=>exactλ_=>.nil
 |o ys id v s cs junk T hg hS hl hs hall hj hT hd h ih=>
  intro hn;refine .o ys id v s cs junk T ?_ hS hl hs hall hj hT hd λi j hi hj=>ih i j hi hj λa ha=>hn a (hT i j a ha).1;have h1:¬id<n:=Nat.not_lt.2 (hn id hS);simp only[zc6,if_neg h1,hg,Option.map_some];rw[zm6];intro e he x hx;rcases List.mem_append.1 he with he|he
  ·obtain⟨i,hi,rfl⟩:=List.mem_iff_getElem.1 he;obtain⟨j,hj2,rfl⟩:=List.mem_iff_getElem.1 hx;exact(h i j O (by rw[<-hs i O];exact hj2)).tidy λa ha=>hn a (hT i j a ha).1
  ·exact .flat (hj e he x hx)
theorem HasV.blur{y x:AV}(h:HasV V S y x){n:Nat}:(∀a,S a->n<=a)->HasV (zc6 n V) S y x:=by
 induction h with
 |c h=>exactλhn=>.c (h.blur hn)
 |agg h=>
  intro hn;obtain⟨U,h1,h2,h3,h4⟩:=h;exact .agg ⟨U,h1,h2,h3,λj hy hx=>(h4 j hy hx).blur λa ha=>hn a (h2 j a ha)⟩
 |tup U hl hU hd h ih=>exactλhn=>.tup U hl hU hd λi hy hx=>ih i hy hx λa ha=>hn a (hU i a ha)
theorem Gr.blur(h:Kept G.next G V)(ho:OldS V):Gr G (zc6 G.next V):=by
 have hn:∀a,¬a<V.next->V.get a=none:=λa ha=>by
  cases hg:V.get a with
  |none=>rfl
  |some y=>exact absurd (ho a y hg).1 ha
 let l:List (Nat×List (List Ce)):=(List.range (V.next-G.next)).map λk=>((zc6 G.next V).get (G.next+k)).getD (0,[])
 have hll:l.length=V.next-G.next:=by simp[l]
 have hnx:=h.next;refine⟨l, ?_,λb hb e he x hx=>?_⟩
 ·refine wa.ext (by rw[z4,hll];show V.next=_;omega) λa=>?_;by_cases h1:a<G.next
  ·rw[E_lt h1,<-h.get a h1];exact if_pos h1
  ·rw[E_ge h1];by_cases h2:a<V.next
   ·have h3:=h.full a h2 λhh=>absurd hh h1;obtain⟨k,rfl⟩:∃k,a=G.next+k:=⟨a-G.next,O⟩;have h4:k<l.length:=O;rw[Nat.add_sub_cancel_left,yag h4];simp only[l,List.getElem_map,List.getElem_range]
    cases hg:(zc6 G.next V).get (G.next+k)with
    |some y=>rfl
    |none=>
     exfalso;simp only[zc6,if_neg h1]at hg
     cases hg2:V.get (G.next+k)with
     |none=>rw[hg2]at h3;cases h3
     |some y=>rw[hg2]at hg;cases hg
   ·have h3:=hn a h2;rw[List.getElem?_eq_none O];simp only[zc6,if_neg h1,h3,Option.map_none]
 ·obtain⟨k,hk,rfl⟩:=List.mem_map.1 hb
  cases hg:(zc6 G.next V).get (G.next+k)with
  |none=>rw[hg]at he;cases he
  |some y=>
   rw[hg]at he;simp only[zc6,if_neg (show¬G.next+k<G.next by omega)]at hg
   cases hg2:V.get (G.next+k)with
   |none=>rw[hg2]at hg;cases hg
   |some z=>
    rw[hg2]at hg
    cases hg;obtain⟨e1,_,rfl⟩:=List.mem_map.1 he;obtain⟨x1,_,rfl⟩:=List.mem_map.1 hx;exact zla
theorem Ok.newV{P:Program}{f:Nat}{y:AV}(h:Ok P f args G (λr V=>Kept G.next G V/\HasV V (λa=>G.next<=a/\a<V.next) y r)):Ok P f args G (NewV G y):=
 (h.blur G.next).mono λr V2 ⟨V,⟨h1,h2⟩,ho,e⟩=>by
   subst e;exact⟨.blur h1 ho,h2.blur λa ha=>ha.1⟩
theorem Vl.has{vals:List Val}(h:Vl V vals x):Has V (λa=>idOf x=some a) (.fz (vals.map encV)) x:=by
 cases h with
 |nil=>exact .nil
 |sl vals id v junk hg hj=>
  refine .o (vals.map encV) id v 3 (vals.map encV) junk (λ_ _ _=>False) hg rfl rfl (λi hi=>rfl) (λe he=>?_) (λe he x hx=>(hj e he).2 x hx) (λ_ _ _ h=>h.elim) (λ_ _ _ _ _ h=>h.elim) (λi j hi hj=>.c ((jcq _ (yaa hi)).2 _ (yaa hj)));rcases List.mem_append.1 he with he|he
  ·exact(jcq e he).1
  ·exact(hj e he).1
variable {rows:List RowD}
theorem Tb.has{L:ChL}{i:Nat}{lab:Nat->Nat×Option Int}(h:Tb V (Own L n V.next lab i) rows x)(hr:Rise rows):Has V (λa=>∃w,Own L n V.next lab i w a) (.fz (rows.map jc)) x:=by
 cases h with
 |sl ps id v junk hrw hg hj h0 hp=>
  subst hrw;have e0:(ps.map encP).length=((ps.map (·.1)).map jc).length:=gx;have hinj:∀j j' (h1:j<ps.length) (h2:j'<ps.length),ps[j].1.id=ps[j'].1.id->j=j':=λj j' h1 h2 he=>by
   have h3:=List.pairwise_iff_getElem.1 hr;rcases Nat.lt_trichotomy j j' with h|h|h
   ·have:=h3 j j' (by simpa using h1) (by simpa using h2) h;simp only[List.getElem_map]at this;exact absurd he (by intro e;omega)
   ·exact h
   ·have:=h3 j' j (by simpa using h2) (by simpa using h1) h;simp only[List.getElem_map]at this;exact absurd he (by intro e;omega)
  rw[vec,e0];refine .o (S:=λa=>∃w,Own L n V.next lab i w a) ((ps.map (·.1)).map jc) id v 2 (ps.map encP) junk (λj c a=>c=1/\∃hj:j<ps.length,Own L n V.next lab i (some ps[j].1.id) a) hg ⟨none,h0⟩ gx (λj hj=>?_) (λe he=>?_) (λe he x hx=>(hj e he).2 x hx) (λj c a ha=>?_) (λj c j' c' a h1 h2=>?_) (λj c hj hc=>?_)
  ·simp[encP,jc]
  ·rcases List.mem_append.1 he with he|he
   ·obtain⟨p,_,rfl⟩:=List.mem_map.1 he
    rfl
   ·exact(hj e he).1
  ·obtain⟨rfl,hj,ha⟩:=ha;refine⟨⟨_,ha⟩,λe=>?_⟩;subst e;have:=ha.1.symm.trans h0.1
   cases this
  ·obtain⟨rfl,hj,ha⟩:=h1;obtain⟨rfl,hj',ha'⟩:=h2;have:=ha.1.symm.trans ha'.1;injection this with _ h3;injection h3 with h3;exact⟨hinj j j' hj hj' h3,rfl⟩
  ·have hj2:j<ps.length:=by simpa using hj
   have e1:(ps.map encP)[j]'(by simpa using hj2)=encP ps[j]:=gx;have e2:((ps.map (·.1)).map jc)[j]'hj=jc ps[j].1:=gx;have hc2:c<2:=by rw[e2]at hc;exact hc
   simp only[e1,e2];have hc3:c=0\/c=1:=O;rcases hc3 with rfl|rfl
   ·exact .c (.int _ _)
   ·obtain⟨h1,h2⟩:=hp _ (yaa hj2);exact h1.has.mono λa ha=>⟨rfl,hj2,h2 a ha⟩
variable {s:List zd}{xs:List Ce}{db:List Data}
theorem ww.has{L:ChL}(h:ww L n s xs db V)(hr:∀d∈db,Rise d.rows):Has V (λa=>n<=a/\a<V.next/\a≠L.c) (.fz (db.map jb)) (.sl L.d L.vd 0 db.length (db.length+L.junk.length)):=by
 obtain⟨lab,hl⟩:=h.tb;have e0:db.length=(db.map jb).length:=(yae _).symm;rw[e0];refine .o (S:=λa=>n<=a/\a<V.next/\a≠L.c) (db.map jb) L.d L.vd 1 (cells xs) L.junk (λi j a=>j=0/\∃w,Own L n V.next lab i w a) h.d (show n<=L.d/\L.d<V.next/\L.d≠L.c from⟨h.nd,h.ld,Ne.symm h.cd⟩) (by simp[cells,h.len]) (λi hi=>by simp[cells,jb]) (λe he=>?_) (λe he x hx=>(h.jk e he).2 x hx) (λi j a ha=>?_) (λi j i' j' a h1 h2=>?_) (λi j hi hj=>?_)
 ·rcases List.mem_append.1 he with he|he
  ·obtain⟨x,_,rfl⟩:=List.mem_map.1 he
   rfl
  ·exact(h.jk e he).1
 ·obtain⟨_,w,hw⟩:=ha;exact⟨⟨hw.2.1,hw.2.2.1,hw.2.2.2.1⟩,hw.2.2.2.2⟩
 ·obtain⟨q1,w,hw⟩:=h1;obtain⟨q2,w',hw'⟩:=h2;have:=hw.1.symm.trans hw'.1;injection this with h3 _;exact⟨h3,O⟩
 ·have hi2:i<db.length:=by simpa using hi
  have hi3:i<xs.length:=by rw[h.len];exact hi2
  have hj0:j=0:=by
   simp[jb]at hj;exact hj
  subst hj0;have h1:=(hl i hi3 hi2).has (hr _ (yaa hi2));have e1:((db.map jb)[i]'hi)[0]'hj=.fz (db[i].rows.map jc):=by simp[jb]
  have e2:((cells xs)[i]'(by simpa [cells]using hi3))[0]'(by simp[cells])=xs[i]:=by simp[cells]
  rw[e1,e2];exact h1.mono λa ha=>⟨rfl,ha⟩
variable {junk:List (List Ce)}
theorem jkq{fr:Fr}{s bytes id:Nat}{x y:Opd}{ys:List (List Ce)}{e:List Ce}(hx:x.ev fr=some (.c (vec id v ys junk)))(hy:y.ev fr=some (.c (.fz [e])))(hg:V.get id=some (v,ys++junk))(hys:∀q∈ys,q.length=s)(hj:Jk s junk)(he:e.length=s)(hb:(ys.length+1)*bytes<=140737488355328):
 ∃v' junk',Jk s junk'/\aop (.app s bytes x y) fr V=some (.c (vec id v' (ys++[e]) junk'),V.put id (v',ys++[e]++junk')):=by
 have hall1:∀q∈[e],q.length=s:=λq hq=>by rw[List.mem_singleton.1 hq];exact he
 have hall:∀q∈ys++junk,q.length=s:=λq hq=>by
  rcases List.mem_append.1 hq with hq|hq
  ·exact hys q hq
  ·exact(hj q hq).1
 by_cases c:1<=junk.length
 ·refine⟨v,junk.drop 1,λq hq=>hj q (ybp hq), ?_⟩;have e2:zj (ys++junk) (0+ys.length) [e]=ys++[e]++junk.drop 1:=by
   simp only[zj,Nat.zero_add,List.length_singleton];rw[List.take_left' rfl,List.drop_append];rw[yac O,Nat.add_sub_cancel_left];simp
  have h1:appA V s bytes (vec id v ys junk) [e]=some (vec id v (ys++[e]) (junk.drop 1),V.put id (v,ys++[e]++junk.drop 1)):=by
   unfold appA;rw[if_pos hall1];simp only[vec,hg];rw[if_pos ⟨trivial,gx,O,hall⟩,if_pos (by simp only[List.length_singleton];omega),e2];simp only[List.length_append,List.length_singleton,List.length_drop];rw[show ys.length+1+(junk.length-1)=ys.length+junk.length by omega]
  simp only[aop,hx,hy,wa.els,Option.bind_some,h1,Option.map_some]
 ·refine⟨v+1,[],Jk.nil, ?_⟩;have e3:(List.drop 0 (ys++junk)).take ys.length=ys:=by rw[List.drop_zero,List.take_left' rfl]
  have h1:appA V s bytes (vec id v ys junk) [e]=some (vec id (v+1) (ys++[e]) [],V.put id (v+1,ys++[e]++[])):=by
   unfold appA;rw[if_pos hall1];simp only[vec,hg];rw[if_pos ⟨trivial,gx,O,hall⟩,if_neg (by simp only[List.length_singleton];omega),if_pos (by simpa using hb),e3];simp
  simp only[aop,hx,hy,wa.els,Option.bind_some,h1,Option.map_some]
theorem jl6{fr:Fr}{s:Nat}{z:List Ce}:aop (.mksl false s 0 z []) fr V=some (.c (vec V.next 0 [] []),V.new (0,[])):=rfl
section
variable {P:Program}{n0 nt:Nat}{rets:List RV}{R:AV->wa->Prop}{K:List AK}{fr:Fr}{V:wa}
variable {d:Option Nat}{g:Option (Nat×Bool)}{ys:List (List Ce)}{e:List Ce}
theorem Go.appO{rest:List wd}{s bytes id:Nat}{x y:Opd}(hw:wants fr g=some true)(hx:x.ev fr=some (.c (vec id v ys junk)))(hy:y.ev fr=some (.c (.fz [e])))(hg:V.get id=some (v,ys++junk))(hys:∀q∈ys,q.length=s)(hj:Jk s junk)(he:e.length=s)(hb:(ys.length+1)*bytes<=140737488355328)
 (h:∀v' junk',Jk s junk'->Go P n0 nt rets R (.ops rest::K) (putA fr d (.c (vec id v' (ys++[e]) junk'))) (V.put id (v',ys++[e]++junk'))):Go P n0 nt rets R (.ops (⟨d,.op (.app s bytes x y),g⟩::rest)::K) fr V:=
 let⟨_,_,h1,h2⟩:=jkq hx hy hg hys hj he hb
 .op hw h2 (h _ _ h1)
theorem Go.sappO{rest:List (List wd)}{s bytes id:Nat}{x y:Opd}(hw:wants fr g=some true)(hx:x.ev fr=some (.c (vec id v ys junk)))(hy:y.ev fr=some (.c (.fz [e])))(hg:V.get id=some (v,ys++junk))(hys:∀q∈ys,q.length=s)(hj:Jk s junk)(he:e.length=s)(hb:(ys.length+1)*bytes<=140737488355328)
 (h:∀v' junk',Jk s junk'->Go P n0 nt rets R (.segs rest::K) (putA fr d (.c (vec id v' (ys++[e]) junk'))) (V.put id (v',ys++[e]++junk'))):Go P n0 nt rets R (.segs ([⟨d,.op (.app s bytes x y),g⟩]::rest)::K) fr V:=
 let⟨_,_,h1,h2⟩:=jkq hx hy hg hys hj he hb
 .sop hw h2 (h _ _ h1)
end
theorem zhn:cells xs++[[x]]=cells (xs++[x]):=by
 show _=List.map _ (xs++[x]);rw[yaqq]
 rfl
theorem Kept.new{y:Nat×List (List Ce)}(h:n<=V.next):Kept n V (V.new y):=⟨Nat.le_succ _,λa ha=>if_neg O,λa ha hs=>by
 show(if a=V.next then _ else _:Option _).isSome=true;split
 ·rfl
 ·exact hs (by have:a<V.next+1:=ha;omega)⟩
structure DbT(n:Nat)(V:wa)(db:List Data)(o vo:Nat)(xs:List Ce)(junk:List (List Ce)):Prop where
 get:V.get o=some (vo,cells xs++junk)
 jk:Jk 1 junk
 len:xs.length=db.length
 no:n<=o
 lo:o<V.next
 tb:∃lab:Nat->Nat×Option Int,∀i (h:i<xs.length) (h2:i<db.length),Tb V (λw a=>lab a=(i,w)/\n<=a/\a<V.next/\a≠o) db[i].rows xs[i]
structure wl6(n:Nat)(V0 V:wa)(rows:List RowD)(m v:Nat)(ps:List PRow)(junk:List (List Ce))(new:Nat->Option Int):Prop where
 get:V.get m=some (v,ps.map encP++junk)
 jk:Jk 2 junk
 rows:ps.map (·.1)=rows
 lt:m<V.next
 vl:∀p∈ps,Vl V p.1.vals p.2/\∀a,idOf p.2=some a->m<a/\a<V.next/\new a=some p.1.id
 old:∀a,a<m->V.get a=V0.get a
 kept:Kept n V0 V
theorem wl6.push{V0:wa}{m:Nat}{ps:List PRow}{new:Nat->Option Int}(h:wl6 n V0 V rows m v ps junk new)(hn:n<=m)(r:RowD){v9 v':Nat}{junk9 junk':List (List Ce)}(hj9:Jk 3 junk9)(hj:Jk 2 junk'):
 wl6 n V0 ((E V [(v9,r.vals.map encV++junk9)]).put m (v',ps.map encP++[[.int .i64 r.id,vec (V.next+0) v9 (r.vals.map encV) junk9]]++junk')) (rows++[r]) m v' (ps++[(r,vec (V.next+0) v9 (r.vals.map encV) junk9)]) junk' (λa=>if a<V.next then new a else some r.id):=by
 have hlt:=h.lt;have hE:(E V [(v9,r.vals.map encV++junk9)]).next=V.next+1:=rfl;refine⟨?_,hj,by rw[yaqq,h.rows];rfl,by show m<V.next+1;omega,λp hp=>?_,λa ha=>(if_neg O).trans ((E_lt O).trans (h.old a ha)),h.kept.trans ((Kept.ofE O _).trans (.put hn))⟩
 ·rw[yaqq];exact ja7
 ·rcases List.mem_append.1 hp with hp|hp
  ·obtain⟨h1,h2⟩:=h.vl p hp;refine⟨h1.frame λa ha=>(if_neg (by have:=h2 a ha;omega)).trans (E_lt (h2 a ha).2.1),λa ha=>?_⟩;obtain⟨h3,h4,h5⟩:=h2 a ha;refine⟨h3,by show a<V.next+1;omega, ?_⟩;show(if a<V.next then new a else some r.id)=_;rw[if_pos h4];exact h5
  ·rw[List.mem_singleton.1 hp];refine⟨.sl r.vals _ v9 junk9 ((if_neg O).trans (by rw[E_at];rfl)) hj9,λa ha=>?_⟩
   cases ha;refine⟨O,by show V.next+0<V.next+1;omega, ?_⟩;show(if V.next+0<V.next then new (V.next+0)else some r.id)=_;rw[if_neg O]
theorem DbT.push{V0:wa}{o vo vo':Nat}{junk':List (List Ce)}(h:DbT n V0 db o vo xs junk){rows:List RowD}{v:Nat}{ps:List PRow}{junk2:List (List Ce)}{new:Nat->Option Int}(k:wl6 n V0 V rows V0.next v ps junk2 new)(hn:n<=V0.next)(hj:Jk 1 junk'):
 DbT n (V.put o (vo',cells xs++[[vec V0.next v (ps.map encP) junk2]]++junk')) (db++[⟨rows⟩]) o vo' (xs++[vec V0.next v (ps.map encP) junk2]) junk':=by
 have hlo:=h.lo;have hlt:=k.lt;obtain⟨lab,hl⟩:=h.tb;refine⟨by rw[<-zhn];exact ja7,hj,by rw[yba,yba,h.len];rfl,h.no,by show o<V.next;omega,⟨λa=>if a<V0.next then lab a else if a=V0.next then(db.length,none)else(db.length,new a),λi hi hi2=>?_⟩⟩;by_cases e:i<db.length
 ·have e2:i<xs.length:=by rw[h.len];exact e
  rw[yapq e2,yapq e];refine(hl i e2 e).frame (λw a ha=>⟨?_,ha.2.1,by show a<V.next;have:=ha.2.2.1;omega,ha.2.2.2⟩) λw a ha=>(if_neg ha.2.2.2).trans (k.old a ha.2.2.1);show(if a<V0.next then lab a else _)=_;rw[if_pos ha.2.2.1];exact ha.1
 ·have hie:i=db.length:=by simp at hi2;omega
  subst hie;have e1:(db++[(⟨rows⟩:Data)])[db.length]'hi2=⟨rows⟩:=by rw[List.getElem_append_right (Nat.le_refl _)];simp
  have e2:(xs++[vec V0.next v (ps.map encP) junk2])[db.length]'hi=vec V0.next v (ps.map encP) junk2:=by rw[List.getElem_append_right (by rw[h.len];exact Nat.le_refl _)];simp[h.len]
  rw[e1,e2];refine .sl _ ps _ v junk2 k.rows ((if_neg O).trans k.get) k.jk ⟨?_,hn,hlt,O⟩ λp hp=>?_
  ·show(if V0.next<V0.next then _ else if V0.next=V0.next then _ else _)=_;rw[if_neg (Nat.lt_irrefl _),if_pos rfl]
  ·obtain⟨h1,h2⟩:=k.vl p hp;refine⟨h1.frame λa ha=>if_neg (by have:=h2 a ha;omega),λa ha=>?_⟩;obtain⟨h3,h4,h5⟩:=h2 a ha;refine⟨?_,O,h4,O⟩;show(if a<V0.next then _ else if a=V0.next then _ else _)=_;rw[if_neg O,if_neg O,h5]
set_option maxHeartbeats 1000000 in
theorem zdw(db:List Data)(hd:db.length<=60)(hr:∀d∈db,d.rows.length<=60/\∀r∈d.rows,r.vals≠[]/\r.vals.length<=34359738368)(G:wa):Ok Tryz.prog 186 [.c (.fz (db.map jb))] G (λr V=>∃o vo xs junk,r=.c (vec o vo (cells xs) junk)/\Kept G.next G V/\DbT G.next V db o vo xs junk):=by
 refine Ok.run0 mixed wd2 gz λhS hA=>?_;clear hS hA;repeat' first|refine X ?_|((first|apply yG|apply yH|apply yI);exact rfl;(first|exact jl6))|exact yaF|refine Y ?_ ?_<;>intro _
 refine Go.keep [3,10,11,12] (Go.loops (I:=λm fr V=>∃(i:Nat) (k:Int) (vo:Nat) (xs:List Ce) (junk:List (List Ce)),m=db.length-i/\i<=db.length/\k=i/\(Kept G.next G V/\DbT G.next V (db.take i) G.next vo xs junk)/\
  fr=[(3,.c (vec G.next vo (cells xs) junk)),(10,.c (.fz (db.map jb))),(11,.c (.int .i64 (db.length:Int))),(12,.c (.int .i64 k))]) ?_ _ _ _ ⟨0,_,0,[],[],rfl,yad _,rfl,⟨.new (yai _),⟨if_pos rfl,Jk.nil,rfl,yai _,yao _,⟨λ_=>(0,none),λi h=>by cases h⟩⟩⟩,rfl⟩)
 rintro m fr V ⟨i,k,vo,xs,junk,rfl,hi,hk,⟨hK,hD⟩,rfl⟩ hrec;by_cases hlt:i<db.length
 ·obtain⟨hr1,hr2⟩:=hr _ (yaa hlt);have hn0:G.next<=V.next:=hK.next;have htk:db.take (i+1)=db.take i++[⟨db[i].rows⟩]:=yaj hlt;repeat' first|refine X ?_|((first|apply yG|apply yH|apply yI);exact rfl;(first|exact yax jb hk hlt|exact jl6))|exact yaF|refine Y ?_ ?_<;>intro _
  refine Go.keep [3,6,10,11,12,18,19,20] (Go.loops (I:=λm fr V'=>∃(j:Nat) (kj:Int) (v:Nat) (ps:List PRow) (junk2:List (List Ce)) (new:Nat->Option Int),m=db[i].rows.length-j/\j<=db[i].rows.length/\kj=j/\wl6 G.next V V' (db[i].rows.take j) V.next v ps junk2 new/\
   fr=[(3,.c (vec G.next vo (cells xs) junk)),(6,.c (vec V.next v (ps.map encP) junk2)),(10,.c (.fz (db.map jb))),(11,.c (.int .i64 (db.length:Int))),(12,.c (.int .i64 k)),(18,.c (.fz (db[i].rows.map jc))),(19,.c (.int .i64 (db[i].rows.length:Int))),(20,.c (.int .i64 kj))]) ?_ _ _ _ ⟨0,_,0,[],[],λ_=>none,rfl,yad _,rfl,⟨if_pos rfl,Jk.nil,rfl,yao _,λp hp=>(by cases hp),λa ha=>if_neg O,.new hn0⟩,rfl⟩)
  rintro m fr V1 ⟨j,kj,v,ps,junk2,new,rfl,hj,hkj,hT,rfl⟩ hrecj;have hn1:V.next<=V1.next:=hT.kept.next;have hn2:G.next<=V1.next:=yaf hn0 hn1;have hpl:ps.length<=60:=by
   have h1:=congrArg List.length hT.rows;rw[yae,yasq]at h1;omega
  by_cases hltj:j<db[i].rows.length
  ·obtain⟨hv0,hvl⟩:=hr2 _ (yaa hltj);have cm:=zat db[i].rows[j].vals hv0 hvl V1;have htj:db[i].rows.take (j+1)=db[i].rows.take j++[db[i].rows[j]]:=yaj hltj;clear hrec hr;repeat' first|apply Go.seq|apply Go.skip|apply Go.region|apply Go.nil|apply Go.block|apply Go.blk|apply Go.segs|(apply Go.exit;exact rfl)|(apply Go.cond true;exact rfl)|(apply Go.cond false;exact rfl)|apply yB|apply yC|((first|apply yD|apply yE);(first|exact yF|assumption);iterate 6 exact rfl)|((first|apply yG|apply yH|apply yI);exact rfl;(first|exact yJ|exact yK rfl rfl|exact yL rfl|exact yM rfl|exact rfl|exact aL rfl rfl rfl rfl rfl|exact aS rfl rfl rfl rfl rfl rfl rfl|exact yax jc hkj hltj))|((first|apply yN|apply yO|apply yP);exact rfl)|exact yaF|(((first|apply yT|apply yU|apply yV|apply yW);exact rfl;(first|exact .d|exact .e|exact .n|((fail_if_success exact bqt);(fail_if_success exact bqf);exact .b)))<;>intro _)
   apply Go.draw;refine Go.qd ?_;repeat' first|(apply yA;exact rfl)|(apply Go.qd)|apply Qc.nil|(apply Qc.op;exact rfl;(first|exactλ_=>rfl|exactλ_=>yM rfl))|(apply Qc.no;exact rfl)|((first|apply yD|apply yE);(first|exact yF|assumption);iterate 6 exact rfl)|((first|apply yG|apply yH);exact rfl;(first|exact yJ|exact yK rfl rfl|exact yL rfl|exact yM rfl|exact rfl|exact aL rfl rfl rfl rfl rfl|exact aS rfl rfl rfl rfl rfl rfl rfl))|((first|apply yN|apply yO);exact rfl)|exact yaF|(((first|apply yT|apply yU|apply yV|apply yW);exact rfl;(first|exact .d|exact .e|exact .n|((fail_if_success exact bqt);(fail_if_success exact bqf);exact .b)))<;>intro _)
   refine .call _ rfl rfl rfl cm ?_;rintro r9 V9 ⟨v9,junk9,hj9,hr9,ht9⟩;rw[hr9,ht9];clear hr9 ht9 cm;repeat' first|(apply yA;exact rfl)|(apply Go.qd)|apply Qc.nil|(apply Qc.op;exact rfl;(first|exactλ_=>rfl|exactλ_=>yM rfl))|(apply Qc.no;exact rfl)|((first|apply yD|apply yE);(first|exact yF|assumption);iterate 6 exact rfl)|((first|apply yG|apply yH);exact rfl;(first|exact yJ|exact yK rfl rfl|exact yL rfl|exact yM rfl|exact rfl|exact aL rfl rfl rfl rfl rfl|exact aS rfl rfl rfl rfl rfl rfl rfl))|((first|apply yN|apply yO);exact rfl)|exact yaF|(((first|apply yT|apply yU|apply yV|apply yW);exact rfl;(first|exact .d|exact .e|exact .n|((fail_if_success exact bqt);(fail_if_success exact bqf);exact .b)))<;>intro _)
   have hg2:(E V1 [(v9,db[i].rows[j].vals.map encV++junk9)]).get V.next=some (v,ps.map encP++junk2):=(E_lt hT.lt).trans hT.get;have hbd:((ps.map encP).length+1)*32<=140737488355328:=by rw[yae];omega
   repeat' first|refine X ?_|(apply Go.sappO;exact rfl;exact rfl;exact rfl;exact hg2;exact jfn;exact hT.jk;exact rfl;exact hbd;intro v' junk' hj')|exact yaF|refine Y ?_ ?_<;>intro _
   have hfin:=hT.push hn0 db[i].rows[j] (v9:=v9) (v':=v') hj9 hj';rw[<-htj]at hfin;have e1:ps.map encP++[zj (zj [Ce.int .i64 0,Ce.nils] 0 [Ce.int .i64 db[i].rows[j].id]) 1 [vec (V1.next+0) v9 (db[i].rows[j].vals.map encV) junk9]]=(ps++[(db[i].rows[j],vec (V1.next+0) v9 (db[i].rows[j].vals.map encV) junk9)]).map encP:=by
    rw[yaqq]
    rfl
   have e2:ps.map encP++[[.int .i64 db[i].rows[j].id,vec (V1.next+0) v9 (db[i].rows[j].vals.map encV) junk9]]=(ps++[(db[i].rows[j],vec (V1.next+0) v9 (db[i].rows[j].vals.map encV) junk9)]).map encP:=by
    rw[yaqq]
    rfl
   rw[e2]at hfin;rw[e1];exact Go.keep [3,6,10,11,12,18,19,20] (hrecj _ _ _ O ⟨j+1,_,v',_,junk',_,rfl,hltj,wb hkj O,hfin,rfl⟩)
  ·have hje:j=db[i].rows.length:=O;subst hje;rw[yan (yai _)]at hT;clear hrecj;have hxl:xs.length<=60:=by
    have:=hD.len;rw[yasq]at this;omega
   have hg:V1.get G.next=some (vo,cells xs++junk):=(hT.old _ hD.lo).trans hD.get;have hcl:∀q∈cells xs,q.length=1:=λq hq=>by
    obtain⟨x,_,rfl⟩:=List.mem_map.1 hq
    rfl
   have hbd:((cells xs).length+1)*24<=140737488355328:=by rw[cells,yae];omega
   repeat' first|refine X ?_|(apply Go.appO;exact rfl;exact rfl;exact rfl;exact hg;exact hcl;exact hD.jk;exact rfl;exact hbd;intro v' junk' hj')|exact yaF|refine Y ?_ ?_<;>intro _
   have hfin:=hD.push (vo':=v') hT hn0 hj';rw[<-htk]at hfin;have hcc:cells xs++[zj [Ce.nils] 0 [vec V.next v (ps.map encP) junk2]]=cells (xs++[vec V.next v (ps.map encP) junk2]):=zhn;have hfin2:DbT G.next (V1.put G.next (v',cells xs++[zj [Ce.nils] 0 [vec V.next v (ps.map encP) junk2]]++junk')) (db.take (i+1)) G.next v' (xs++[vec V.next v (ps.map encP) junk2]) junk':=hfin;rw[hcc]at hfin2⊢;exact Go.keep [3,10,11,12] (hrec _ _ _ O ⟨i+1,_,v',_,junk',rfl,hlt,wb hk O,⟨hK.trans (hT.kept.trans (.put (yai _))),hfin2⟩,rfl⟩)
 ·repeat' first|refine X ?_|exact yaF|refine Y ?_ ?_<;>intro _
  rw[yan O]at hD;exact .ret rfl ⟨_,_,_,_,rfl,hK,hD⟩
theorem je3:∀{l pre:List zd},z7 pre l=true->(∀t∈l,∀u∈pre,u.name≠t.name)/\l.Pairwise (λa b=>a.name≠b.name)
 |[],_,_=>⟨λt h=>(by cases h),.nil⟩
 |a::r,pre,h=>by
  simp only[z7,Bool.and_eq_true,Bool.not_eq_true']at h;obtain⟨⟨h1,h2⟩,h3⟩:=h;obtain⟨g1,g2⟩:=je3 h3;refine⟨λt ht u hu=>?_,.cons (λt ht=>?_) g2⟩
  ·rcases List.mem_cons.1 ht with rfl|ht
   ·rw[ybr]at h2;have:=h2 u hu;intro e;exact this (beq_iff_eq.2 e)
   ·exact g1 t ht u (List.mem_append_left _ hu)
  ·exact g1 t ht a (List.mem_append_right _ (List.mem_singleton.2 rfl))
theorem jhn:∀{l pre:List Col},jar pre l=true->∀c∈l,ju c.dflt=true
 |[],_,_,c,hc=>by cases hc
 |a::r,pre,h,c,hc=>by
  simp only[jar,jeq,wgg,Bool.and_eq_true]at h;rcases List.mem_cons.1 hc with rfl|hc
  ·exact h.1.1.2.2.1
  ·exact jhn h.2 c hc
theorem schG(h:js s=true)(hb:∀t∈s,zah 34359738368 t):SchG s:=by
 obtain⟨h1,h2,h3⟩:=wcj.1 h;have hT:=wbc h2;have hD:=(je3 h2).2;have hM:∀t∈s,∀f∈t.fks,metF s t f=true:=λt ht f hf=>by
  rw[ybr]at h3;have h4:=h3 t ht;rw[Bool.not_eq_true,ybr]at h4;have h5:=h4 f hf;simpa using h5
 have hR:∀t∈s,∀f∈t.fks,∃n,∃hn:n<s.length,wl1 s f=(n:Int)/\s[n].name=f.table/\s[n].key.length=f.cols.length:=λt ht f hf=>by
  have h4:=hM t ht f hf;rcases jdb (λu:zd=>u.name==f.table) s 0 with⟨h5,_⟩|⟨k,hk,h5,h6⟩
  ·rw[jj6 h5]at h4
   cases h4
  ·have h7:idxA (λu:zd=>u.name==f.table) s 0=(k:Int):=by rw[h5];omega
   rw[jid h7 hk,zid,yat,decide_eq_true_eq]at h4;exact⟨k,hk,h7,by simpa using List.find?_some h6,h4.1⟩
 refine⟨O,λt ht=>?_,hb,λt ht f hf=>?_,λt ht f hf n hn he=>?_,wgo h,λt ht=>?_⟩
 ·have:=(wy.1 (hT t ht)).2.2.1;rw[zbz,yat,decide_eq_true_eq]at this;omega
 ·obtain⟨n,hn,h4,_⟩:=hR t ht f hf;exact⟨n,hn,h4⟩
 ·obtain⟨m,hm,_,h5,h6⟩:=hR t ht f hf;have h7:=List.pairwise_iff_getElem.1 hD;rcases Nat.lt_trichotomy n m with h|h|h
  ·exact absurd (he.symm.trans h5.symm) (h7 n m hn hm h)
  ·subst h;exact h6.symm
  ·exact absurd (h5.trans he) (h7 m n hm hn h)
 ·exact jhn (wy.1 (hT t ht)).2.2.2.2.2.2.1
theorem dbG(h:dbF s db=true){I:Nat->Int->Prop}(hI:∀i (h:i<db.length),∀r∈db[i].rows,I i r.id):DbG I s db:=by
 obtain⟨h1,h2,h3⟩:=zjd h;refine⟨h2,λi hi hi2=>?_⟩;have h4:=h3 i hi hi2;obtain⟨h5,h6⟩:=jjd h4;have hc:=(wgo h1 _ (yaa hi)).cols8;exact⟨h5,hI i hi2,jk8 h4,λr hr=>⟨(wax (h6 r hr).1).1,zck (h6 r hr).1 hc⟩⟩
variable {I:Nat->Int->Prop}
theorem zl7(hs:SchG s){db:List Data}(h:DbG I s db):db.length<=5/\(∀d∈db,jbz 34359738368 d)/\∀d∈db,Rise d.rows/\d.rows.length<=60/\∀r∈d.rows,r.vals≠[]/\r.vals.length<=8/\∀w∈r.vals,bV 12 w:=by
 have h5:=hs.few;have hl:=h.len;have key:∀d∈db,Rise d.rows/\d.rows.length<=60/\∀r∈d.rows,r.vals≠[]/\r.vals.length<=8/\∀w∈r.vals,bV 12 w:=λd hd=>by
  obtain⟨i,hi,rfl⟩:=List.getElem_of_mem hd;have hi2:i<s.length:=O;have hr:=h.rows i hi2 hi;have ht:=hs.tab _ (yaa hi2);refine⟨hr.rise,hr.len,λr hm=>?_⟩;obtain⟨f1,f2⟩:=hr.fit r hm;have f3:=(zf.1 f2).2;have:=ht.cols0;have:=ht.cols8;refine⟨λe=>by rw[e]at f1;simp at f1;omega,O,λw hw=>?_⟩;have:=f3 w hw;simp only[ju,Bool.or_eq_true,Bool.and_eq_true,beq_iff_eq,decide_eq_true_eq]at this;rw[bV];rcases this with(⟨_,h⟩|⟨_,h⟩)|⟨_,h⟩
  ·rw[h];simp
  ·rw[h];simp
  ·omega
 refine⟨O,λd hd=>⟨by have:=(key d hd).2.1;omega,λr hr=>?_⟩,key⟩;obtain⟨_,k2,k3⟩:=(key d hd).2.2 r hr;exact⟨O,λw hw=>by have:=k3 w hw;rw[bV]at this⊢;omega⟩
def topR(db:List Data)(q:Res):List Data×Int:=if q.2=0 then(q.1,0)else(db,q.2)
theorem jih{α:Type}{c:α->Int}{B:Nat}:∀{l:List α},(∀x∈l,c x<=B)->cntL c l<=(B*l.length:Nat)
 |[],_=>by simp[cntL]
 |a::l,h=>by
  have h1:=h a gx;have h2:=jih (l:=l) λx hx=>h x (by simp[hx]);rw[cntL,List.length_cons,Nat.mul_succ];omega
theorem znw(hs:SchG s){db:List Data}(h:DbG I s db):db.length<=34359738368/\(∀x∈db,jbz 34359738368 x)/\1+cntL wo db<=34359738368:=by
 obtain⟨h1,h2,h3⟩:=zl7 hs h;refine⟨O,h2, ?_⟩;have key:∀d∈db,wo d<=(1500:Nat):=λd hd=>by
  obtain⟨_,h4,h5⟩:=h3 d hd;have hr:∀r∈d.rows,jn r<=(25:Nat):=λr hr=>by
   obtain⟨_,h6,_⟩:=h5 r hr;rw[jn,cnt3];omega
  have h7:=jih hr;have h8:25*d.rows.length<=1500:=O;rw[wo];omega
 have h9:=jih key;have h10:1500*db.length<=7500:=O;omega
end Go.Proofs.YtedaadaaibofaaaGreat.Am
namespace Go.Proofs.YtedaadaaibofaaaGreat.Am
variable {I:Nat->Int->Prop}

variable {V:wa}
theorem jm6{fr:Fr}{cs:List Ce}{x:Opd}(hx:x.ev fr=some (.agg cs)):aop (.box false x) fr V=some (.c (.ptr V.next 0 0 0),V.new (0,[cs])):=by
 simp[aop,hx,AV.cells]
theorem Kept.mono{n m:Nat}{V':wa}(h:Kept m V V')(hn:n<=m):Kept n V V':=⟨h.next,λa ha=>h.get a (yaw ha hn),h.full⟩
variable {db:List Data}{o:Nat}{xs:List Ce}{junk:List (List Ce)}
theorem DbT.holds{n:Nat}{s:List zd}{vo:Nat}(h:DbT n V db o vo xs junk)(hn:n<=V.next):ww ⟨V.next,0,o,vo,junk⟩ n s xs db (V.new (0,[[.fz (s.map ja),vec o vo (cells xs) junk]])):=by
 have hcl:(cells xs).length=db.length:=by rw[cells,yae,h.len]
 have hlo:=h.lo;obtain⟨lab,hl⟩:=h.tb;refine⟨?_,(if_neg (Nat.ne_of_lt hlo)).trans h.get,h.jk,h.len,⟨lab,λi h1 h2=>(hl i h1 h2).frame (λw a ha=>⟨ha.1,ha.2.1,Nat.lt_succ_of_lt ha.2.2.1,Nat.ne_of_lt ha.2.2.1,ha.2.2.2⟩) λw a ha=>if_neg (Nat.ne_of_lt ha.2.2.1)⟩,hn,h.no,by show V.next≠o;omega,yao _,Nat.lt_succ_of_lt hlo⟩;refine(if_pos rfl).trans ?_;rw[vec,hcl]
theorem DbT.has{n:Nat}{vo:Nat}(h:DbT n V db o vo xs junk)(hn:n<=V.next)(hr:∀d∈db,Rise d.rows):Has V (λa=>n<=a/\a<V.next) (.fz (db.map jb)) (vec o vo (cells xs) junk):=by
 have hcl:(cells xs).length=db.length:=by rw[cells,yae,h.len]
 have h1:=(h.holds (s:=[]) hn).has hr;rw[vec,hcl];have hb:∀a,(n<=a/\a<V.next+1/\a≠V.next)->n<=a/\a<V.next:=λa ha=>O;exact(h1.frame λa ha=>(if_neg ha.2.2).symm).mono hb
theorem HasV.two{S:Nat->Prop}{y x:Ce}{k:IntKind}{z:Int}(h:Has V S y x):HasV V S (.tup [.c y,.c (.int k z)]) (.tup [.c x,.c (.int k z)]):=
 HasV.pair (S1:=S) (S2:=λ_=>False) (.c h) (.c (.c (.int _ _))) (λ_ h=>h) (λ_ h=>h.elim) λ_ _ h=>h
theorem wla(s:List zd)(db:List Data)(hd:db.length<=60)(hr:∀d∈db,d.rows.length<=60/\∀r∈d.rows,r.vals≠[]/\r.vals.length<=34359738368)(hrise:∀d∈db,Rise d.rows)(f:Nat)(pre cap:List Ce)(q:Res)(hq:q.2=0->∀d∈q.1,Rise d.rows)(G:wa)
 (hf:∀L xs V,ww L G.next s xs db V->Ok Tryz.prog f (pre.map .c++[.c (.ptr L.c L.vc 0 0)]++cap.map .c) V (Done L G.next s q V)):
 Ok Tryz.prog 136 [.c (.fz (s.map ja)),.c (.fz (db.map jb)),.c (.fn f pre cap)] G (λr V=>Kept G.next G V/\∃x,r=.tup [.c x,.c (.int .i64 (topR db q).2)]/\Has V (λa=>G.next<=a/\a<V.next) (.fz ((topR db q).1.map jb)) x):=by
 refine Ok.run0 mixed wel gz λhS hA=>?_;clear hS hA;repeat' first|refine X ?_|exact yaF|refine Y ?_ ?_<;>intro _
 refine .call _ rfl rfl rfl (zdw db hd hr G) ?_;rintro r9 V1 ⟨o,vo,xs,junk,hr9,hK1,hD1⟩;rw[hr9];clear hr9;have hH:=hD1.holds (s:=s) hK1.next;have hK2:Kept G.next G (V1.new (0,[[.fz (s.map ja),vec o vo (cells xs) junk]])):=hK1.trans (.new hK1.next);repeat' first|refine X ?_|((first|apply yG|apply yH|apply yI);exact rfl;(first|exact jm6 rfl))|exact yaF|refine Y ?_ ?_<;>intro _
 refine .call _ rfl rfl rfl (hf _ _ _ hH) ?_;rintro r9 V2 ⟨hr9,hk2,hq2⟩;rw[hr9];have hK3:=hK2.trans hk2;by_cases h0:q.2=0
 ·obtain⟨xs2,hH2⟩:=hq2 h0;rw[topR,if_pos h0,h0];repeat' first|refine X ?_|((first|apply yG|apply yH|apply yI);exact rfl;(first|exact wcq hH2 rfl))|exact yaF|refine Y ?_ ?_<;>intro _
  exact .ret rfl ⟨hK3,_,rfl,(hH2.has (hq h0)).mono λa ha=>⟨ha.1,ha.2.1⟩⟩
 ·rw[topR,if_neg h0];generalize q.2=e at h0⊢;repeat' first|refine X ?_|exact yaF|refine Y ?_ ?_<;>intro _
  refine .call _ rfl rfl rfl (zdw db hd hr V2) ?_;rintro r9 V3 ⟨o3,vo3,xs3,junk3,hr9,hK4,hD4⟩;rw[hr9];repeat' first|refine X ?_|exact yaF|refine Y ?_ ?_<;>intro _
  exact .ret rfl ⟨hK3.trans (hK4.mono hK3.next),_,rfl,(hD4.has hK4.next hrise).mono λa ha=>⟨yaf hK3.next ha.1,ha.2⟩⟩
end Go.Proofs.YtedaadaaibofaaaGreat.Am
namespace Go.Proofs.YtedaadaaibofaaaGreat.Am
variable {I:Nat->Int->Prop}

end Go.Proofs.YtedaadaaibofaaaGreat.Am
namespace Go.Proofs.YtedaadaaibofaaaGreat.Am
abbrev Ins:=List Data×Int×Int
def insE(s:List zd)(k:Nat)(vals:List Val)(nx:Int)(db:List Data):Ins:=if((tabN s k).fks.any λf=>wq s db false vals f)=true then([],0,5)else(db,nx,0)
def insD(s:List zd)(k:Nat)(vals:List Val)(nx:Int)(db:List Data):Ins:=if(jv db k).length=60\/nx>1000000000 then([],0,7)else insE s k vals nx (db.set k ⟨jv db k++[⟨nx,vals⟩]⟩)
def insC(s:List zd)(k:Nat)(vals:List Val)(nx:Int)(c:Res):Ins:=if c.2=0 then insD s k vals nx c.1 else([],0,c.2)
def insF(run:Chg->List Data->Res)(s:List zd)(k:Nat)(vals:List Val)(rep:Bool)(db:List Data):Ins:=
 if zcd (tabN s k) vals=0 then insC s k vals (jct (jv db k)) (wad run (tabN s k) k ⟨jct (jv db k),vals⟩ rep db)else([],0,zcd (tabN s k) vals)
def resI(q:Ins):AV:=.tup [.c (if q.2.2=0 then .fz (q.1.map jb)else .nils),.c (.int .i64 q.2.1),.c (.int .i64 q.2.2)]
theorem jl7{e:Int}(h:e≠0):resI ([],0,e)=.tup [.c .nils,.c (.int .i64 0),.c (.int .i64 e)]:=by rw[resI,if_neg h]
theorem zdc(q:Ins)(n:Nat):∀y∈(resI q).all,Old n y:=λy hy=>by
 simp only[resI,AV.all,AV.all.allL,List.append_nil,List.mem_append,List.mem_singleton]at hy;rcases hy with rfl|rfl|rfl
 ·split
  ·exact zae (jb2 _)
  ·exact .nils
 ·exact .int _ _
 ·exact .int _ _
def jji(k:Nat)(nx:Int):Nat->Int->Prop:=λj id=>1<=id/\id<=1000000000/\(j=k->id<nx)
theorem wji{x:RowD}:∀{l:List RowD},(∀r∈l,r.id<x.id)->zfl x false l=l++[x]
 |[],_=>rfl
 |r::l,h=>by
  have h1:=h r gx;have h2:=wji (x:=x) (l:=l) λq hq=>h q (by simp[hq]);rw[zfl,decide_eq_false O,if_neg gx,if_neg O];simp only[Bool.or_false];rw[h2]
  rfl
variable {t:zd}
theorem wdu.mono{Q Q':Int->Prop}{l:List RowD}(h:wdu Q t l)(hq:∀i,Q i->Q' i):wdu Q' t l:=⟨h.len,λr hr=>hq _ (h.ids r hr),h.rise,h.fit⟩
variable {s:List zd}{db:List Data}
theorem DbG.mono{I I':Nat->Int->Prop}(h:DbG I s db)(hI:∀k i,I k i->I' k i):DbG I' s db:=⟨h.len,λi h1 h2=>(h.rows i h1 h2).mono (hI i)⟩
def BI:Nat->Int->Prop:=λ_ id=>1<=id/\id<=1000000000
theorem wih{l:List RowD}(h:∀r∈l,1<=r.id):1<=jct l:=by
 by_cases h0:0<l.length
 ·have hlt:l.length-1<l.length:=O;have:=zfn (l:=l) (k:=l.length-1) hlt O;have:=h _ (yaa hlt);omega
 ·have:l=[]:=yal O;subst this;exact yaxq _
variable {k:Nat}{nx:Int}
theorem wdu.snoc{l:List RowD}(h:wdu (jji k nx k) t l){x:RowD}(hx:x.id=nx)(h1:1<=nx)(h2:nx<=1000000000)(hl:l.length<60)(hf:x.vals.length=t.cols.length/\jt x.vals 16=true):wdu (BI k) t (l++[x]):=by
 refine⟨by rw[yba,List.length_singleton];omega,λr hr=>?_, ?_,λr hr=>?_⟩
 ·rcases List.mem_append.1 hr with hr|hr
  ·exact⟨(h.ids r hr).1,(h.ids r hr).2.1⟩
  ·rw[List.mem_singleton.1 hr,hx];exact⟨h1,h2⟩
 ·refine List.pairwise_append.2 ⟨h.rise,List.pairwise_singleton _ _,λa ha b hb=>?_⟩;rw[List.mem_singleton.1 hb,hx];exact(h.ids a ha).2.2 rfl
 ·rcases List.mem_append.1 hr with hr|hr
  ·exact h.fit r hr
  ·rw[List.mem_singleton.1 hr];exact hf
theorem DbG.next(h:DbG (jji k nx) s db):DbG BI s db:=h.mono λ_ _ h=>⟨h.1,h.2.1⟩
theorem jnw{l:List RowD}(hr:Rise l):∀r∈l,r.id<jct l:=λr hm=>by
 obtain⟨i,hi,rfl⟩:=List.getElem_of_mem hm;have h1:=zfn (l:=l) (k:=l.length-1) O O;rw[h1];have h2:=List.pairwise_iff_getElem.1 hr;by_cases e:i=l.length-1
 ·subst e;omega
 ·have:=h2 i (l.length-1) hi O O;omega
set_option maxHeartbeats 2000000 in
theorem we3(hs:SchG s){k:Nat}(hk:k<s.length)(vals0:List Val)(rep:Bool)(db:List Data){nx:Int}(hnx:nx=jct (jv db k))(h:DbG (jji k nx) s db)(hl:vals0.length=s[k].cols.length)(hv:jt vals0 16=true):
 Pure Tryz.prog 256 [.c (.fz (s.map ja)),.c (.fz (db.map jb)),.c (.int .i64 (k:Int)),.c (.fz (vals0.map encV)),.c (.bool rep)] (resI (insF (chgF s 12) s k (if rep then jl s[k] 0 vals0 else vals0) rep db)):=by
 refine yaq [] jf5 λG=>?_;have hk2:k<db.length:=by rw[h.len];exact hk
 have ht:=hs.tab _ (yaa hk);have hb:=hs.big _ (yaa hk);have hR:=h.rows k hk hk2;have cF:=jgr s[k] vals0 hl ht.cols8;have hvv:=whk hs hk hl hv rep;rw[jf hk2]at hnx;have cn:=jhl db[k] hR.len λr hr=>⟨(hR.ids r hr).1,(hR.ids r hr).2.1⟩;have hn9:1<=nx:=by rw[hnx];exact wih λr hr=>(hR.ids r hr).1
 rw[<-hnx]at cn;rw[insF,zr hk,jf hk2,<-hnx];repeat' first|refine X ?_|((first|apply yG|apply yH|apply yI);exact rfl;(first|exact yax ja rfl hk))
 refine Go.meet (K':=[_]) (λfr V'=>∃vals,vals=(if rep then jl s[k] 0 vals0 else vals0)/\fr=[(0,AV.c (.fz (s.map ja))),(1,.c (.fz (db.map jb))),(2,.c (.int .i64 (k:Int))),(3,.c (.fz (vals.map encV))),(4,.c (.bool rep)),(13,.c (.fp (ja s[k])))]/\V'=E G []) ?_ ?_
 ·intro K hrec
  cases rep
  ·repeat' first|refine X ?_|exact yaF|refine Y ?_ ?_<;>intro _
   exact Go.keep [0,1,2,3,4,13] (hrec _ _ ⟨_,rfl,rfl,rfl⟩)
  ·repeat' first|refine X ?_|refine yaC (cF) ?_|exact yaF|refine Y ?_ ?_<;>intro _
   exact Go.keep [0,1,2,3,4,13] (hrec _ _ ⟨_,rfl,rfl,rfl⟩)
 rintro fr V' ⟨vals,hve,rfl,rfl⟩;rw[<-hve]at hvv⊢;clear cF hl hv hve;have ca:=jeu s[k] vals hvv.1 ht hvv.2;have cv:=jc5 vals (yaf (zf.1 hvv.2).1 gb);by_cases hab:zcd s[k] vals=0
 ·rw[hab]at ca;rw[if_pos hab];have hr:=jkd (I:=jji k nx) hs 12 1 gb rfl;have cc:=wdv (deep:=0) hs hr hk ⟨nx,vals⟩ hvv.1 rep db h;have hkc:=λ(h2:(wad (chgF s 12) s[k] k ⟨nx,vals⟩ rep db).2=0)=>zbv hr.keeps hk (t:=s[k]) (x:=⟨nx,vals⟩) (rep:=rep) h h2;generalize wad (chgF s 12) s[k] k ⟨nx,vals⟩ rep db=c at cc hkc⊢;rw[insC];by_cases hc0:c.2=0
  ·rw[jaj hc0]at cc;rw[if_pos hc0];have hdb1:=hkc hc0;generalize c.1=db1 at cc hdb1⊢;have hn1:k<db1.length:=by rw[hdb1.len];exact hk
   have hR1:=hdb1.rows k hk hn1;rw[insD,jf hn1];by_cases hlen:db1[k].rows.length=60
   ·rw[if_pos (.inl hlen)];repeat' first|refine X ?_|((first|apply yG|apply yH|apply yI);exact rfl;(first|exact yax jb rfl hk2|exact yax jb rfl hn1))|refine yaC (ca) ?_|refine yaC (cn) ?_|refine yaC (cv) ?_|refine yaC (cc) ?_|exact yaF|refine Y ?_ ?_<;>intro _
    all_goals first
     |(exfalso;omega)
     |contradiction
     |skip
    exact .ret rfl (Fin.same rfl (zdc ([],0,7) _))
   ·by_cases hbig:nx>1000000000
    ·rw[if_pos (.inr hbig)];repeat' first|refine X ?_|((first|apply yG|apply yH|apply yI);exact rfl;(first|exact yax jb rfl hk2|exact yax jb rfl hn1))|refine yaC (ca) ?_|refine yaC (cn) ?_|refine yaC (cv) ?_|refine yaC (cc) ?_|exact yaF|refine Y ?_ ?_<;>intro _
     all_goals first
      |(exfalso;omega)
      |contradiction
      |skip
     all_goals exact .ret rfl (Fin.same rfl (zdc ([],0,7) _))
    ·rw[if_neg (λh=>by rcases h with h|h<;>omega)];have c4:=zgs db1[k] ⟨nx,vals⟩ hR1.len;rw[wji λr hr=>(hR1.ids r hr).2.2 rfl]at c4;have c5:=wd9 db1 (k:Int) k ⟨db1[k].rows++[⟨nx,vals⟩]⟩ rfl hn1 (by rw[hdb1.len];exact yaf hs.few gb);have hset:DbG BI s (db1.set k ⟨db1[k].rows++[⟨nx,vals⟩]⟩):=hdb1.next.set hk (hR1.snoc rfl hn9 O (by have:=hR1.len;omega) hvv);generalize db1.set k ⟨db1[k].rows++[⟨nx,vals⟩]⟩=db2 at c5 hset⊢;have c9:=wbu s db2 (k:Int) k vals true (yaf hs.few gb) rfl hk ht.fk3 (fkR hs hset hk hvv.1);have e9:s[k].fks.any (wq s db2 (!true) vals)=s[k].fks.any λf=>wq s db2 false vals f:=rfl;rw[e9]at c9;rw[insE,zr hk];generalize (s[k].fks.any λf=>wq s db2 false vals f)=B at c9⊢
     cases B
     ·rw[if_neg yah];repeat' first|refine X ?_|((first|apply yG|apply yH|apply yI);exact rfl;(first|exact yax jb rfl hk2|exact yax jb rfl hn1))|refine yaC (ca) ?_|refine yaC (cn) ?_|refine yaC (cv) ?_|refine yaC (cc) ?_|refine yaC (c4) ?_|refine yaC (c5) ?_|refine yaC (c9) ?_|exact yaF|refine Y ?_ ?_<;>intro _
      all_goals first
       |(exfalso;omega)
       |contradiction
       |skip
      exact .ret rfl (Fin.same rfl (zdc (db2,nx,0) _))
     ·rw[if_pos rfl];repeat' first|refine X ?_|((first|apply yG|apply yH|apply yI);exact rfl;(first|exact yax jb rfl hk2|exact yax jb rfl hn1))|refine yaC (ca) ?_|refine yaC (cn) ?_|refine yaC (cv) ?_|refine yaC (cc) ?_|refine yaC (c4) ?_|refine yaC (c5) ?_|refine yaC (c9) ?_|exact yaF|refine Y ?_ ?_<;>intro _
      all_goals first
       |(exfalso;omega)
       |contradiction
       |skip
      exact .ret rfl (Fin.same rfl (zdc ([],0,5) _))
  ·rw[if_neg hc0];obtain⟨e,he⟩:∃e,c.2=e:=⟨_,rfl⟩;rw[he]at hc0;rw[waf he hc0]at cc;rw[he];repeat' first|refine X ?_|((first|apply yG|apply yH|apply yI);exact rfl;(first|exact yax jb rfl hk2))|refine yaC (ca) ?_|refine yaC (cn) ?_|refine yaC (cv) ?_|refine yaC (cc) ?_|exact yaF|refine Y ?_ ?_<;>intro _
   exact .ret rfl (Fin.same (jl7 hc0).symm (zdc ([],0,e) _))
 ·rw[if_neg hab];generalize zcd s[k] vals=e at ca hab⊢;repeat' first|refine X ?_|refine yaC (ca) ?_|exact yaF|refine Y ?_ ?_<;>intro _
  exact .ret rfl (Fin.same (jl7 hab).symm (zdc ([],0,e) _))
theorem wnw{s bytes v:Nat}{ys junk:List (List Ce)}{e:List Ce}(hys:∀q∈ys,q.length=s)(hj:Jk s junk)(he:e.length=s)(hb:(ys.length+1)*bytes<=140737488355328):
 ∃v' junk',Jk s junk'/\∀(id:Nat) (V:wa) (fr:Fr) (x y:Opd),x.ev fr=some (.c (vec id v ys junk))->y.ev fr=some (.c (.fz [e]))->V.get id=some (v,ys++junk)->aop (.app s bytes x y) fr V=some (.c (vec id v' (ys++[e]) junk'),V.put id (v',ys++[e]++junk')):=by
 have hall1:∀q∈[e],q.length=s:=λq hq=>by rw[List.mem_singleton.1 hq];exact he
 have hall:∀q∈ys++junk,q.length=s:=λq hq=>by
  rcases List.mem_append.1 hq with hq|hq
  ·exact hys q hq
  ·exact(hj q hq).1
 by_cases c:1<=junk.length
 ·refine⟨v,junk.drop 1,λq hq=>hj q (ybp hq),λid V fr x y hx hy hg=>?_⟩;have e2:zj (ys++junk) (0+ys.length) [e]=ys++[e]++junk.drop 1:=by
   simp only[zj,Nat.zero_add,List.length_singleton];rw[List.take_left' rfl,List.drop_append];rw[yac O,Nat.add_sub_cancel_left];simp
  have h1:appA V s bytes (vec id v ys junk) [e]=some (vec id v (ys++[e]) (junk.drop 1),V.put id (v,ys++[e]++junk.drop 1)):=by
   unfold appA;rw[if_pos hall1];simp only[vec,hg];rw[if_pos ⟨trivial,gx,O,hall⟩,if_pos (by simp only[List.length_singleton];omega),e2];simp only[List.length_append,List.length_singleton,List.length_drop];rw[show ys.length+1+(junk.length-1)=ys.length+junk.length by omega]
  simp only[aop,hx,hy,wa.els,Option.bind_some,h1,Option.map_some]
 ·refine⟨v+1,[],Jk.nil,λid V fr x y hx hy hg=>?_⟩;have e3:(List.drop 0 (ys++junk)).take ys.length=ys:=by rw[List.drop_zero,List.take_left' rfl]
  have h1:appA V s bytes (vec id v ys junk) [e]=some (vec id (v+1) (ys++[e]) [],V.put id (v+1,ys++[e]++[])):=by
   unfold appA;rw[if_pos hall1];simp only[vec,hg];rw[if_pos ⟨trivial,gx,O,hall⟩,if_neg (by simp only[List.length_singleton];omega),if_pos (by simpa using hb),e3];simp
  simp only[aop,hx,hy,wa.els,Option.bind_some,h1,Option.map_some]
variable {V:wa}{l:List (Nat×List (List Ce))}
theorem jn7{id:Nat}{b:Nat×List (List Ce)}(h:id<V.next):E ((E V []).put id b) l=(E V l).put id b:=by
 refine wa.ext (by show(E V []).next+l.length=V.next+l.length;rw[z4];rfl) λa=>?_;by_cases h1:a<V.next
 ·rw[E_lt (show a<((E V []).put id b).next from h1)];show(if a=id then some b else(E V []).get a)=(if a=id then some b else(E V l).get a);rw[E_lt h1,E_lt h1]
 ·rw[E_ge (show¬a<((E V []).put id b).next from h1)];show _=(if a=id then some b else(E V l).get a);rw[if_neg O,E_ge h1]
  rfl
variable {n:Nat}
theorem wm6{L:ChL}{xs:List Ce}(h:ww L n s xs db V){k:Nat}(hk:k<db.length)(hk2:k<xs.length)(hl:db[k].rows.length<=60)(hid:∀r∈db[k].rows,1<=r.id/\r.id<=1000000000):
 Ok Tryz.prog 236 [.c (.ptr L.c L.vc 0 0),.c (.int .i64 (k:Int))] V (λr V'=>r=.c (.int .i64 (jct db[k].rows))/\V'=V):=by
 refine Ok.run0 mixed zcs gz λhS hA=>?_;clear hS hA;obtain⟨lab,ps,id2,v2,junk2,hat,hl2⟩:=h.any hk hk2;have hpl:(ps.map encP).length=db[k].rows.length:=by rw[yae,hat.len]
 by_cases h0:0<db[k].rows.length
 ·have hlt:db[k].rows.length-1<db[k].rows.length:=O;have hz:IntKind.i64.wrap ((db[k].rows.length:Int)-1)=((db[k].rows.length-1:Nat):Int):=by rw[jg O O];omega
  have hlast:=hid _ (yaa hlt);have hnx:=zfn (l:=db[k].rows) (k:=db[k].rows.length-1) hlt O;repeat' first|refine X ?_|((first|apply yG|apply yH|apply yI);exact rfl;(first|exact wcq h rfl|exact wea h rfl rfl rfl hk|exact zeb h rfl hk2|exact jea h hk hk2 rfl))|exact yaF|refine Y ?_ ?_<;>intro _
  all_goals first
   |(exfalso;omega)
   |skip
  rw[hat.x];repeat' first|refine X ?_|((first|apply yG|apply yH|apply yI);exact rfl;(first|exact je rfl rfl hz (by rw[hpl];exact hlt) hat.get (hat.at hlt) rfl|exact wm rfl hat.get (hat.at hlt) (Nat.zero_lt_succ _)))|exact yaF|refine Y ?_ ?_<;>intro _
  refine .ret rfl ⟨?_,rfl⟩;rw[hnx,<-hat.row hlt];show AV.c (.int .i64 (IntKind.i64.wrap ((ps[db[k].rows.length-1]'_).1.id+1)))=_;rw[jg (by rw[hat.row hlt];omega) (by rw[hat.row hlt];omega)]
 ·have hnil:db[k].rows=[]:=yal O;repeat' first|refine X ?_|((first|apply yG|apply yH|apply yI);exact rfl;(first|exact wcq h rfl|exact wea h rfl rfl rfl hk|exact zeb h rfl hk2|exact jea h hk hk2 rfl))|exact yaF|refine Y ?_ ?_<;>intro _
  all_goals first
   |(exfalso;omega)
   |skip
  rw[hnil];exact .ret rfl ⟨rfl,rfl⟩
variable {vals:List Val}
theorem zlb{rows:List RowD}{keys:List (List Int)}{a b:Int}(h:∀r∈rows,r.id≠a/\r.id≠b):j8 rows keys a vals=j8 rows keys b vals:=by
 rw[j8,j8]
 congr 1
 refine List.filter_congr λr hr=>?_;obtain⟨h1,h2⟩:=h r hr;rw[beq_eq_false_iff_ne.2 h1,beq_eq_false_iff_ne.2 h2]
theorem wl7{run:Chg->List Data->Res}{a b:Int}{rep:Bool}(h:∀r∈jv db k,r.id≠a/\r.id≠b):wad run t k ⟨a,vals⟩ rep db=wad run t k ⟨b,vals⟩ rep db:=by
 rw[wad,wad];simp only[zlb h]
def job(L:ChL)(n:Nat)(s:List zd)(q:Ins)(V:wa)(r:AV)(V':wa):Prop:=r=.tup [.c (.int .i64 q.2.2),.c (.int .i64 q.2.1)]/\Kept n V V'/\(q.2.2=0->∃xs,ww L n s xs q.1 V')
set_option maxHeartbeats 4000000 in
theorem zjj{L:ChL}(hs:SchG s){k:Nat}(hk:k<s.length)(vals0:List Val)(rep:Bool)(db:List Data){nx:Int}(hnx:nx=jct (jv db k))(xs:List Ce)(V:wa)(h:ww L n s xs db V)(hdb:DbG (jji k nx) s db)(hl:vals0.length=s[k].cols.length)(hv:jt vals0 16=true):
 Ok Tryz.prog 138 [.c (.ptr L.c L.vc 0 0),.c (.int .i64 (k:Int)),.c (.fz (vals0.map encV)),.c (.bool rep)] V (job L n s (insF (chgF s 12) s k (if rep then jl s[k] 0 vals0 else vals0) rep db) V):=by
 refine Ok.run0 mixed jb9 gz λhS hA=>?_;clear hS hA;have hk2:k<db.length:=by rw[hdb.len];exact hk
 have hk3:k<xs.length:=by rw[h.len];exact hk2
 have ht:=hs.tab _ (yaa hk);have hb:=hs.big _ (yaa hk);have hR:=hdb.rows k hk hk2;have hne:∀{l:List Val},l.length=s[k].cols.length->l≠[]:=λh1 h0=>by
  rw[h0]at h1;have:=ht.cols0;simp at h1;omega
 have cF:=wjh s[k] vals0 hl (hne hl) ht.cols8;have hvv:=whk hs hk hl hv rep;rw[jf hk2]at hnx;have hn9:1<=nx:=by rw[hnx];exact wih λr hr=>(hR.ids r hr).1
 rw[insF,zr hk,jf hk2,<-hnx];have hn0:V.next<=V.next:=yai _;repeat' first|refine X ?_|((first|apply yG|apply yH|apply yI);exact rfl;(first|exact jbv h rfl|exact yax ja rfl hk))
 refine Go.meet (K':=[_]) (λfr V'=>V'=V/\∃vals,vals=(if rep then jl s[k] 0 vals0 else vals0)/\fr=[(0,AV.c (.ptr L.c L.vc 0 0)),(1,.c (.int .i64 (k:Int))),(2,.c (.fz (vals.map encV))),(3,.c (.bool rep)),(10,.c (.fp (ja s[k])))]) ?_ ?_
 ·intro K hrec
  cases rep
  ·repeat' first|refine X ?_|exact yaF|refine Y ?_ ?_<;>intro _
   exact Go.keep [0,1,2,3,10] (hrec _ _ ⟨rfl,_,rfl,rfl⟩)
  ·repeat' first|refine X ?_|refine yaC (cF) ?_|exact yaF|refine Y ?_ ?_<;>intro _
   exact Go.keep [0,1,2,3,10] (hrec _ _ ⟨rfl,_,rfl,rfl⟩)
 rintro fr V' ⟨hτ,vals,hve,rfl⟩;rw[hτ];rw[<-hve]at hvv⊢;clear cF hl hv hve hτ;have ca:=whm s[k] vals hvv.1 ht hb;by_cases hab:zcd s[k] vals=0
 ·rw[hab]at ca;rw[if_pos hab];repeat' first|refine X ?_|refine yaC (ca) ?_|exact yaF|refine Y ?_ ?_<;>intro _
  clear ca;have cn:=wm6 h hk2 hk3 hR.len λr hr=>⟨(hR.ids r hr).1,(hR.ids r hr).2.1⟩;rw[<-hnx]at cn;refine .call _ rfl rfl rfl cn ?_;rintro r9 V9 ⟨hr9,ht9⟩;rw[hr9,ht9];clear hr9 ht9 cn;have hr:=wl5 (I:=jji k nx) (L:=L) (n:=n) hs 12 1 gb rfl;have cc:=zkq (deep:=0) hs hr hk 0 vals hvv.1 rep db xs V h hdb;rw[wl7 (b:=nx) λr hm=>by
   rw[jf hk2]at hm;have h1:=hR.ids r hm;exact⟨λe=>by have:=h1.1;omega,λe=>by have:=h1.2.2 rfl;omega⟩]at cc
  have hkc:=λ(h2:(wad (chgF s 12) s[k] k ⟨nx,vals⟩ rep db).2=0)=>zbv hr.keeps hk (t:=s[k]) (x:=⟨nx,vals⟩) (rep:=rep) hdb h2;generalize wad (chgF s 12) s[k] k ⟨nx,vals⟩ rep db=c at cc hkc⊢;repeat' first|refine X ?_|exact yaF|refine Y ?_ ?_<;>intro _
  refine .call _ rfl rfl rfl cc ?_;rintro r9 V1 ⟨hr9,hk1,hq1⟩;rw[hr9];clear cc hr9;rw[insC];by_cases hc0:c.2=0
  ·obtain⟨xs1,hH1⟩:=hq1 hc0;have hdb1:=hkc hc0;rw[if_pos hc0,hc0];generalize c.1=db1 at hdb1 hH1⊢;clear hkc hq1;have hn1:k<db1.length:=by rw[hdb1.len];exact hk
   have hn2:k<xs1.length:=by rw[hH1.len];exact hn1
   have hR1:=hdb1.rows k hk hn1;rw[insD,jf hn1];have hlen60:=hR1.len;by_cases hlen:db1[k].rows.length=60
   ·rw[if_pos (.inl hlen)];repeat' first|refine X ?_|((first|apply yG|apply yH|apply yI);exact rfl;(first|exact wcq hH1 rfl|exact wea hH1 rfl rfl rfl hn1|exact zeb hH1 rfl hn2|exact jea hH1 hn1 hn2 rfl))|exact yaF|refine Y ?_ ?_<;>intro _
    all_goals first
     |(exfalso;omega)
     |skip
    all_goals exact .ret rfl ⟨rfl,hk1,λh=>by cases h⟩
   ·by_cases hbig:nx>1000000000
    ·rw[if_pos (.inr hbig)];repeat' first|refine X ?_|((first|apply yG|apply yH|apply yI);exact rfl;(first|exact wcq hH1 rfl|exact wea hH1 rfl rfl rfl hn1|exact zeb hH1 rfl hn2|exact jea hH1 hn1 hn2 rfl))|exact yaF|refine Y ?_ ?_<;>intro _
     all_goals first
      |(exfalso;omega)
      |skip
     all_goals exact .ret rfl ⟨rfl,hk1,λh=>by cases h⟩
    ·rw[if_neg (λh=>by rcases h with h|h<;>omega)];have hset:DbG BI s (db1.set k ⟨db1[k].rows++[⟨nx,vals⟩]⟩):=hdb1.next.set hk (hR1.snoc rfl hn9 O O hvv);obtain⟨lab2,ps2,id2,v2,junk2,hat,hl2⟩:=hH1.any hn1 hn2;obtain⟨_,q1,q2,q3,q4⟩:=hat.own;repeat' first|apply Go.seq|apply Go.skip|apply Go.region|apply Go.nil|apply Go.block|apply Go.blk|apply Go.segs|(apply Go.exit;exact rfl)|(apply Go.cond true;exact rfl)|(apply Go.cond false;exact rfl)|apply yB|apply yC|((first|apply yD|apply yE);(first|exact yF|assumption);iterate 6 exact rfl)|((first|apply yG|apply yH|apply yI);exact rfl;(first|exact yJ|exact yK rfl rfl|exact yL rfl|exact yM rfl|exact rfl|exact aL rfl rfl rfl rfl rfl|exact aS rfl rfl rfl rfl rfl rfl rfl|exact wcq hH1 rfl|exact wea hH1 rfl rfl rfl hn1|exact zeb hH1 rfl hn2|exact jea hH1 hn1 hn2 rfl))|((first|apply yN|apply yO|apply yP);exact rfl)|exact yaF|(((first|apply yT|apply yU|apply yV|apply yW);exact rfl;(first|exact .d|exact .e|exact .n|((fail_if_success exact bqt);(fail_if_success exact bqf);exact .b)))<;>intro _)
     all_goals first
      |(exfalso;omega)
      |skip
     apply Go.draw;refine .old λ_ hSt=>?_;have hE0:(E V1 []).put id2 (v2,ps2.map encP++junk2)=V1:=by rw[zdm hSt,zih hat.get]
     refine Go.ext ?_ hE0;have hcS:∀a b,((E V1 a).put id2 b).get L.c=some (L.vc,[[.fz (s.map ja),.sl L.d L.vd 0 db1.length (db1.length+L.junk.length)]]):=λa b=>(if_neg (Ne.symm q3)).trans ((E_lt hH1.lc).trans hH1.c);have hdS:∀a b,((E V1 a).put id2 b).get L.d=some (L.vd,cells xs1++L.junk):=λa b=>(if_neg (Ne.symm q4)).trans ((E_lt hH1.ld).trans hH1.d);have o1:∀(a:List (Nat×List (List Ce))) (b:Nat×List (List Ce)) (fr:Fr) (x:Opd),x.ev fr=some (.c (.ptr L.c L.vc 0 1))->aop (.load false 1 x) fr ((E V1 a).put id2 b)=some (.c (.sl L.d L.vd 0 db1.length (db1.length+L.junk.length)),(E V1 a).put id2 b):=λa b fr x hx=>wm hx (hcS a b) rfl (yao _);have o2:∀(a:List (Nat×List (List Ce))) (b:Nat×List (List Ce)) (fr:Fr) (x y:Opd),x.ev fr=some (.c (.sl L.d L.vd 0 db1.length (db1.length+L.junk.length)))->y.ev fr=some (.c (.int .i64 (k:Int)))->aop (.iaddr 1 x y) fr ((E V1 a).put id2 b)=some (.c (.ptr L.d L.vd (0+k) 0),(E V1 a).put id2 b):=λa b fr x y hx hy=>je hx hy rfl hn1 (hdS a b) (za0 hn2) rfl;have o3:∀(a:List (Nat×List (List Ce))) (b:Nat×List (List Ce)) (fr:Fr) (x:Opd),x.ev fr=some (.c (.ptr L.d L.vd (0+k) 0))->aop (.load false 1 x) fr ((E V1 a).put id2 b)=some (.c xs1[k],(E V1 a).put id2 b):=λa b fr x hx=>wm hx (hdS a b) (za0 hn2) (yao _);refine Go.qxd (λa b=>(E V1 a).put id2 b) (λ_=>True) [] (v2,ps2.map encP++junk2) (λa b b' h=>Option.some.inj (ja7.symm.trans ((congrArg (λG=>G.get id2) h).trans ja7))) trivial ?_;repeat' first|(apply Qx.op;exact rfl;(first|exactλa b _=>o1 a b _ _ rfl|exactλa b _=>o2 a b _ _ _ rfl rfl|exactλa b _=>o3 a b _ _ rfl|exactλ_ _ _=>rfl))
     refine Qx.call (λr a'=>∃v9 junk9,Jk 3 junk9/\r=.c (vec (V1.next+0) v9 (vals.map encV) junk9)/\a'=[(v9,vals.map encV++junk9)]) rfl rfl rfl (λb _=>(zat vals (hne hvv.1) (yaf (zf.1 hvv.2).1 gb) ((E V1 []).put id2 b)).mono ?_) ?_
     ·rintro r V9 ⟨v9,junk9,hj9,hr9,ht9⟩;exact⟨_,⟨v9,junk9,hj9,hr9,rfl⟩,by rw[ht9,jn7 q2]⟩
     rintro r a' ⟨v9,junk9,hj9,hr9,ha9⟩;rw[hr9,ha9];have hbd:((ps2.map encP).length+1)*32<=140737488355328:=by rw[yae,hat.len];omega
     obtain⟨v',junk',hj',hap⟩:=wnw (bytes:=32) (v:=v2) (e:=[.int .i64 nx,vec (V1.next+0) v9 (vals.map encV) junk9]) (jfn (ps:=ps2)) hat.jk rfl hbd;repeat' first|(apply Qx.op;exact rfl;exactλ_ _ _=>rfl)
     refine .wop (v:=.c (vec id2 v' (ps2.map encP++[[.int .i64 nx,vec (V1.next+0) v9 (vals.map encV) junk9]]) junk')) (b':=(v',ps2.map encP++[[.int .i64 nx,vec (V1.next+0) v9 (vals.map encV) junk9]]++junk')) rfl rfl (λa=>?_) trivial ?_
     ·rw[hap id2 ((E V1 a).put id2 (v2,ps2.map encP++junk2)) _ _ _ (by rw[<-hat.x];rfl) rfl ja7,zl4]
     refine .nil ?_;have e1:ps2.map encP++[[.int .i64 nx,vec (V1.next+0) v9 (vals.map encV) junk9]]=(ps2++[((⟨nx,vals⟩:RowD),vec (V1.next+0) v9 (vals.map encV) junk9)]).map encP:=by
      rw[yaqq]
      rfl
     rw[e1];have hH2:ww L n s (xs1.set k (vec id2 v' ((ps2++[((⟨nx,vals⟩:RowD),vec (V1.next+0) v9 (vals.map encV) junk9)]).map encP) junk')) (db1.set k ⟨db1[k].rows++[⟨nx,vals⟩]⟩) (((E V1 [(v9,vals.map encV++junk9)]).put id2 (v',(ps2++[((⟨nx,vals⟩:RowD),vec (V1.next+0) v9 (vals.map encV) junk9)]).map encP++junk')).put L.d (L.vd,(cells xs1++L.junk).set (0+k) [vec id2 v' ((ps2++[((⟨nx,vals⟩:RowD),vec (V1.next+0) v9 (vals.map encV) junk9)]).map encP) junk'])):=by
      have hng:∀{a:Nat},a<V1.next->a≠id2->a≠L.d->(((E V1 [(v9,vals.map encV++junk9)]).put id2 (v',(ps2++[((⟨nx,vals⟩:RowD),vec (V1.next+0) v9 (vals.map encV) junk9)]).map encP++junk')).put L.d (L.vd,(cells xs1++L.junk).set (0+k) [vec id2 v' ((ps2++[((⟨nx,vals⟩:RowD),vec (V1.next+0) v9 (vals.map encV) junk9)]).map encP) junk'])).get a=V1.get a:=λha h1 h2=>(if_neg h2).trans ((if_neg h1).trans (E_lt ha));have hld:=hH1.ld;refine hH1.upd hl2 hn2 (new:=λ_=>some nx) (by show V1.next<=V1.next+1;omega) (λa ha hne hno=>hng ha (λe=>hno ⟨none,by rw[e];exact hat.own⟩) hne) ?_ ?_
      ·rw[wjg hn2];exact ja7
      ·refine .sl _ _ id2 v' junk' ?_ ((if_neg q4).trans ja7) hj' (.inl hat.own) λp hp=>?_
       ·rw[yaqq,hat.rows]
        rfl
       ·rcases List.mem_append.1 hp with hm|hm
        ·exact⟨(hat.vl p hm).1.frame λa ha=>hng ((hat.vl p hm).2 a ha).2.2.1 (hat.ne hm ha) ((hat.vl p hm).2 a ha).2.2.2.2,λa ha=>.inl ((hat.vl p hm).2 a ha)⟩
        ·rw[List.mem_singleton.1 hm];refine⟨.sl vals _ v9 junk9 ((if_neg O).trans ((if_neg O).trans ?_)) hj9,λa ha=>.inr ?_⟩
         ·rw[E_at]
          rfl
         ·cases ha;exact⟨yai _,by show V1.next+0<V1.next+1;omega,rfl⟩
     have hK2:Kept n V1 (((E V1 [(v9,vals.map encV++junk9)]).put id2 (v',(ps2++[((⟨nx,vals⟩:RowD),vec (V1.next+0) v9 (vals.map encV) junk9)]).map encP++junk')).put L.d (L.vd,(cells xs1++L.junk).set (0+k) [vec id2 v' ((ps2++[((⟨nx,vals⟩:RowD),vec (V1.next+0) v9 (vals.map encV) junk9)]).map encP) junk'])):=((Kept.ofE hH1.le _).trans (.put q1)).trans (.put hH1.nd);repeat' first|apply Go.seq|apply Go.skip|apply Go.region|apply Go.nil|apply Go.block|apply Go.blk|apply Go.segs|(apply Go.exit;exact rfl)|(apply Go.cond true;exact rfl)|(apply Go.cond false;exact rfl)|apply yB|apply yC|((first|apply yD|apply yE);(first|exact yF|assumption);iterate 6 exact rfl)|((first|apply yG|apply yH|apply yI);exact rfl;(first|exact yJ|exact yK rfl rfl|exact yL rfl|exact yM rfl|exact rfl|exact aL rfl rfl rfl rfl rfl|exact aS rfl rfl rfl rfl rfl rfl rfl|exact je rfl rfl rfl hn1 (hdS _ _) (za0 hn2) rfl|exact zk rfl rfl (hdS _ _) (za0 hn2) (yao _)))|((first|apply yN|apply yO|apply yP);exact rfl)|exact yaF|(((first|apply yT|apply yU|apply yV|apply yW);exact rfl;(first|exact .d|exact .e|exact .n|((fail_if_success exact bqt);(fail_if_success exact bqf);exact .b)))<;>intro _)
     obtain⟨V2,hτ2⟩:∃V2,V2=(((E V1 [(v9,vals.map encV++junk9)]).put id2 (v',(ps2++[((⟨nx,vals⟩:RowD),vec (V1.next+0) v9 (vals.map encV) junk9)]).map encP++junk')).put L.d (L.vd,(cells xs1++L.junk).set (0+k) [vec id2 v' ((ps2++[((⟨nx,vals⟩:RowD),vec (V1.next+0) v9 (vals.map encV) junk9)]).map encP) junk'])):=⟨_,rfl⟩;refine Go.ext ?_ hτ2;rw[<-hτ2]at hH2 hK2;clear hτ2 hap o1 o2 o3 hcS hdS;generalize xs1.set k (vec id2 v' ((ps2++[((⟨nx,vals⟩:RowD),vec (V1.next+0) v9 (vals.map encV) junk9)]).map encP) junk')=xs2 at hH2;generalize db1.set k ⟨db1[k].rows++[⟨nx,vals⟩]⟩=db2 at hset hH2⊢;have hK3:=hk1.trans hK2;rw[insE,zr hk];have c9:=je2 s db2 s[k] vals false (yaf hs.few gb) (yaf ht.fk3 gb) (fkR hs hset hk hvv.1);have e9:s[k].fks.any (wq s db2 false vals)=s[k].fks.any λf=>wq s db2 false vals f:=rfl;rw[e9]at c9;generalize (s[k].fks.any λf=>wq s db2 false vals f)=B at c9⊢;repeat' first|refine X ?_|((first|apply yG|apply yH|apply yI);exact rfl;(first|exact jbv hH2 rfl|exact wcq hH2 rfl))|exact yaF|refine Y ?_ ?_<;>intro _
     refine Go.slcall rfl rfl rfl c9 (.bool _) (.same (.own hH2.frz (.same (.same (.same .nil))))) ?_
     cases B
     ·rw[if_neg yah];repeat' first|refine X ?_|exact yaF|refine Y ?_ ?_<;>intro _
      exact .ret rfl ⟨rfl,hK3,λ_=>⟨xs2,hH2⟩⟩
     ·rw[if_pos rfl];repeat' first|refine X ?_|exact yaF|refine Y ?_ ?_<;>intro _
      exact .ret rfl ⟨rfl,hK3,λh=>by cases h⟩
  ·rw[if_neg hc0];generalize c.2=e at hc0⊢;repeat' first|refine X ?_|exact yaF|refine Y ?_ ?_<;>intro _
   exact .ret rfl ⟨rfl,hk1,λh=>absurd h hc0⟩
 ·rw[if_neg hab];generalize zcd s[k] vals=e at ca hab⊢;repeat' first|refine X ?_|refine yaC (ca) ?_|exact yaF|refine Y ?_ ?_<;>intro _
  exact .ret rfl ⟨rfl,.refl,λh=>absurd h hab⟩
theorem zl8(hs:SchG s){k:Nat}(hk:k<s.length){vals:List Val}(hvv:vals.length=s[k].cols.length/\jt vals 16=true){rep:Bool}{db:List Data}(h:DbG (jji k (jct (jv db k))) s db)(h0:(insF (chgF s 12) s k vals rep db).2.2=0):DbG BI s (insF (chgF s 12) s k vals rep db).1:=by
 have hn9:1<=jct (jv db k):=wih λr hr=>((h.at hk).ids r hr).1;revert h0;rw[insF,zr hk];split
 ·have hkc:=λ(h2:(wad (chgF s 12) s[k] k ⟨jct (jv db k),vals⟩ rep db).2=0)=>zbv (zbe hs 12) hk (t:=s[k]) (x:=⟨jct (jv db k),vals⟩) (rep:=rep) h h2;generalize wad (chgF s 12) s[k] k ⟨jct (jv db k),vals⟩ rep db=c at hkc⊢;rw[insC];split
  ·rename_i hc;have hdb1:=hkc hc;have hn1:k<c.1.length:=by rw[hdb1.len];exact hk
   have hR1:=hdb1.rows k hk hn1;have h60:=hR1.len;rw[insD,jf hn1];split
   ·intro h
    cases h
   ·rename_i hno;rw[insE];split
    ·intro h
     cases h
    ·exactλ_=>hdb1.next.set hk (hR1.snoc rfl hn9 O O hvv)
  ·rename_i hc;exactλh=>absurd h hc
 ·rename_i hc;exactλh=>absurd h hc
theorem dbB(h:dbF s db=true):DbG BI s db:=by
 obtain⟨h1,h2,h3⟩:=zjd h;refine dbG h λi hi r hr=>?_;obtain⟨h5,h6⟩:=(jjd (h3 i O hi)).2 r hr;simp only[isIn,Bool.and_eq_true,decide_eq_true_eq]at h6;exact h6
theorem whn(h:DbG BI s db){k:Nat}(hk:k<s.length):DbG (jji k (jct (jv db k))) s db:=by
 refine⟨h.len,λi h1 h2=>?_⟩;have hR:=h.rows i h1 h2;refine⟨hR.len,λr hr=>⟨(hR.ids r hr).1,(hR.ids r hr).2,λe=>?_⟩,hR.rise,hR.fit⟩;subst e;rw[jf h2];exact jnw hR.rise r hr
theorem HasV.three{S:Nat->Prop}{y x:Ce}{k:IntKind}{z z2:Int}(h:Has V S y x):HasV V S (.tup [.c y,.c (.int k z),.c (.int k z2)]) (.tup [.c x,.c (.int k z),.c (.int k z2)]):=by
 refine .tup (λi a=>i=0/\S a) rfl (λi a ha=>ha.2) (λi i' a h1 h2=>h1.1.trans h2.1.symm) λi hy hx=>?_;have hi:i<3:=hy;have hi3:i=0\/i=1\/i=2:=O;rcases hi3 with rfl|rfl|rfl
 ·exact .c (h.mono λa ha=>⟨rfl,ha⟩)
 ·exact .c (.c (.int _ _))
 ·exact .c (.c (.int _ _))
variable {G:wa}
theorem Fin.nil3{z z2:Int}:Fin G (.tup [.c (.fz []),.c (.int .i64 z),.c (.int .i64 z2)]) (.tup [.c .nils,.c (.int .i64 z),.c (.int .i64 z2)]) (E G l):=by
 refine⟨l,rfl,.tup rfl λi hi=>?_⟩;have hi2:i<3:=hi;have hi3:i=0\/i=1\/i=2:=O;rcases hi3 with rfl|rfl|rfl
 ·exact .c .nil
 ·exact .c (.same _ (.int _ _))
 ·exact .c (.same _ (.int _ _))
theorem zec(l:List Data)(z z2:Int)(n:Nat):∀y∈(AV.tup [.c (.fz (l.map jb)),.c (.int .i64 z),.c (.int .i64 z2)]).all,Old n y:=λy hy=>by
 simp only[AV.all,AV.all.allL,List.append_nil,List.mem_append,List.mem_singleton]at hy;rcases hy with rfl|rfl|rfl
 ·exact zae (jb2 _)
 ·exact .int _ _
 ·exact .int _ _
def nil?{α:Type}(l:List α):Bool:=(l.length:Int)==0
def zii(x:Stmt):Bool:=if x.kind=1 then nil? x.wher&&nil? x.sets else if x.kind=2 then nil? x.rows else decide (x.kind=3)&&(nil? x.rows&&nil? x.sets)
def wc6(t:zd)(r:RowD):Bool:= !(r.id==0)|| !fitF t r.vals
def zdl(t:zd)(x:Stmt):Bool:= !(x.rows.any λr=>wc6 t r)&&(wbt x.wher t.cols.length&&jg9 x.sets t.cols.length)
def l7F(s:List zd)(x:Stmt):Bool:=match jjc s x.table with
 |none=>false
 |some u=>isIn x.policy 0 4&&(zii x&&(decide ((x.rows.length:Int)<=8)&&zdl u x))
def jlb(s:List zd)(x:Stmt):Bool:=js s&&l7F s x
theorem jl8(x:Stmt):Pure Tryz.prog 178 [.agg (zi x)] (.c (.bool (zii x))):=by
 refine yaq [1] jd2 λG=>?_;repeat' first|refine X ?_|exact yaF|refine Y ?_ ?_<;>intro _
 all_goals refine .ret rfl (.bool ?_)
 all_goals simp only[zii,nil?]
 all_goals simp_all
theorem wlb(r:RowD)(t:zd)(hx:r.vals.length<=34359738368):Pure Tryz.prog 180 [.agg (jc r),.c (.fp (ja t))] (.c (.bool (wc6 t r))):=by
 refine yaq [2] jf2 λG=>?_;repeat' first|refine X ?_|((first|apply Go.pcallB|apply Go.spcallB|apply Qg.pcallB);(iterate 3 exact rfl);exact wko t r.vals hx;intro _ _)|exact yaF|refine Y ?_ ?_<;>intro _
 all_goals refine .ret rfl (.bool ?_)
 all_goals simp only[wc6]
 all_goals simp_all
theorem wl8(s:List zd)(x:Stmt)(hx:s.length<=34359738368)(hb:∀t∈s,zah 34359738368 t)(hq:zes 34359738368 x):Pure Tryz.prog 80 [.c (.fz (s.map ja)),.agg (zi x)] (.c (.bool (jlb s x))):=by
 refine yaq [3] zhy λG=>?_;obtain⟨q1,q2,q3,q4⟩:=hq;repeat' first|refine X ?_|fail
 refine .pcall rfl rfl rfl (zav s x.table hx) ?_;rcases jb6 (p:=λu:zd=>u.name==x.table) (l:=s) (i:=0) (yaxq _)with hi|⟨n,hn,hi,hp⟩
 ·have hno:jlb s x=false:=by rw[jlb,l7F,zb2 hi];simp
  rw[hi];repeat' first|refine X ?_|((first|apply Go.pcallB|apply Go.spcallB|apply Qg.pcallB);(iterate 3 exact rfl);exact jcj s hx hb;intro _ _)|exact yaF|refine Y ?_ ?_<;>intro _
  all_goals exact .ret rfl (.bool hno.symm)
 rw[ybw]at hi;have hyes:=wa5 hi hn;have hnz:¬((n:Int)<0):=O;rw[hi];have hsat:jlb s x=(js s&&(isIn x.policy 0 4&&(zii x&&(decide ((x.rows.length:Int)<=8)&&zdl s[n] x)))):=by rw[jlb,l7F,hyes]
 rw[hsat];clear hsat hyes hp hi;repeat' first|refine X ?_|((first|apply Go.pcallB|apply Go.spcallB|apply Qg.pcallB);(iterate 3 exact rfl);(first|exact jcj s hx hb|exact jfj _ _ _|exact jl8 x);intro _ _)|exact yaF|refine Y ?_ ?_<;>intro _
 all_goals try(refine .ret rfl (.bool ?_);clear hb q1 q2 q3 q4;simp_all;done)
 all_goals try(refine .ret rfl (.bool ?_);rw[decide_eq_false (p:=(x.rows.length:Int)<=8) O];simp;done)
 rename_i c p k c2 p2 k2 c3 p3 k3 k4;have hs:=nbF p k;have hc:=wbi hs _ (yaa hn);have hres:(js s&&(isIn x.policy 0 4&&(zii x&&(decide ((x.rows.length:Int)<=8)&&zdl s[n] x))))=zdl s[n] x:=by
  rw[hs,nbF p2 k2,nbF p3 k3,decide_eq_true O];simp
 rw[hres];clear hres p k p2 k2 p3 k3;repeat' first|refine X ?_|((first|apply yG|apply yH|apply yI);exact rfl;(first|exact yax ja rfl hn))|((first|apply Go.pcallB|apply Go.spcallB|apply Qg.pcallB);(iterate 3 exact rfl);(first|exact wj mixed zbn zag jc (λc=>.agg (jc c)) (λ_=>rfl) (λ_=>rfl) x.rows (λr=>wc6 s[n] r) _ [] [.fp (ja s[n])] q2.1 (λj hj _=>wlb _ _ (q2.2 _ (yaa hj)).1)|exact jhj x.wher s[n].cols.length q3.1 O O|exact jk4 x.sets s[n].cols.length q4.1 q4.2 O O);intro _ _)|exact yaF|refine Y ?_ ?_<;>intro _
 all_goals refine .ret rfl (.bool ?_)
 all_goals rw[zdl]
 all_goals clear hb q1 q2 q3 q4
 all_goals simp_all
theorem zl9(s:List zd)(x:Stmt)(hs:js s=true)(hx:s.length<=34359738368)(hb:∀t∈s,zah 34359738368 t)(hq:zes 34359738368 x):Pure Tryz.prog 66 [.c (.fz (s.map ja)),.agg (zi x)] (.c (.bool (l7F s x))):=by
 refine yaq [3] zhw λG=>?_;obtain⟨q1,q2,q3,q4⟩:=hq;repeat' first|refine X ?_|fail
 refine .pcall rfl rfl rfl (jc1 s x.table hx) ?_;rcases jb6 (p:=λu:zd=>u.name==x.table) (l:=s) (i:=0) (yaxq _)with hi|⟨n,hn,hi,hp⟩
 ·have hno:l7F s x=false:=by rw[l7F,zb2 hi]
  rw[hi];repeat' first|refine X ?_|exact yaF|refine Y ?_ ?_<;>intro _
  all_goals exact .ret rfl (.bool hno.symm)
 rw[ybw]at hi;have hyes:=wa5 hi hn;have hnz:¬((n:Int)<0):=O;rw[hi];have hsat:l7F s x=(isIn x.policy 0 4&&(zii x&&(decide ((x.rows.length:Int)<=8)&&zdl s[n] x))):=by rw[l7F,hyes]
 rw[hsat];clear hsat hyes hp hi;repeat' first|refine X ?_|((first|apply Go.pcallB|apply Go.spcallB|apply Qg.pcallB);(iterate 3 exact rfl);exact wa4 _ _ _;intro _ _)|exact yaF|refine Y ?_ ?_<;>intro _
 ·rename_i c p k;refine .ret rfl (.bool ?_);rw[nbT p k]
  rfl
 rename_i c p k;have hc:=wbi hs _ (yaa hn);rw[nbF p k,yaz];clear p k hs hb;repeat' first|refine X ?_|((first|apply yG|apply yH|apply yI);exact rfl;(first|exact yax ja rfl hn))|exact yaF|refine Y ?_ ?_<;>intro _
 refine Go.keep [3,6,7,8] (Go.loops (I:=λm fr V=>∃i:Nat,∃k:Int,m=x.rows.length-i/\i<=x.rows.length/\k=i/\(∀j (hj:j<x.rows.length),j<i->(!wc6 s[n] x.rows[j])=true)/\
  fr=[(3,.c (.fp (zi x))),(6,.c (.fp (ja s[n]))),(7,.c (.int .i64 (s[n].cols.length:Int))),(8,.c (.int .i64 k))]/\V=E G []) ?_ _ _ _ ⟨0,_,rfl,yad _,rfl,λj _ h=>absurd h O,rfl,rfl⟩)
 rintro m fr V ⟨i,k,rfl,hi2,hk,hall,rfl,rfl⟩ hrec;generalize s[n]=t at hc hall hrec⊢;clear hnz c;by_cases hlt:i<x.rows.length
 ·repeat' first|refine X ?_|((first|apply yG|apply yH|apply yI);exact rfl;(first|exact yax jc hk hlt))|((first|apply Go.pcallB|apply Go.spcallB|apply Qg.pcallB);(iterate 3 exact rfl);exact jda t x.rows[i].vals (q2.2 _ (yaa hlt)).1;intro _ _)|exact yaF|refine Y ?_ ?_<;>intro _
  all_goals first
   |(have hbad:wc6 t x.rows[i]=true:=(by rw[wc6];clear hrec hall;simp_all;done)
     refine .ret rfl (.bool ?_);rw[zdl,List.any_eq_true.2 ⟨x.rows[i],yaa hlt,hbad⟩];simp
     done)
   |(refine Go.keep [3,6,7,8] (hrec _ _ _ O ⟨i+1,_,rfl,hlt,wb hk O,upto (p:=λr:RowD=> !wc6 t r) hall hlt ?_,rfl,rfl⟩)
     rw[wc6];clear hrec hall;simp_all
     done)
 have hrows:=wbo (p:=λr:RowD=> !wc6 t r) (l:=x.rows) λj hj=>hall j hj O;have q5:=q2.1;clear hrec hall q2;simp only[Bool.not_not]at hrows;have hat:zdl t x=(wbt x.wher t.cols.length&&jg9 x.sets t.cols.length):=by rw[zdl,hrows];rfl
 rw[hat];clear hat hrows;have h0:(0:Int)<=t.cols.length:=O;have h1:(t.cols.length:Int)<=16:=O;have hw:=jnf h0 h1;have hex:∀e:List Tok,e.length<=34359738368->Pure Tryz.prog 145 [.c (.fz (e.map zh)),.c (.int .i64 t.cols.length)] (.c (.bool (war e t.cols.length))):=λe he=>zgg e _ he O O;clear hc;generalize (t.cols.length:Int)=N at*;repeat' first|refine X ?_|exact yaF|refine Y ?_ ?_<;>intro _
 refine Go.keep [3,7,9] (Go.loops (I:=λm fr V=>∃i:Nat,∃k:Int,m=x.sets.length-i/\i<=x.sets.length/\k=i/\za6 N [] x.sets=za6 N (x.sets.take i) (x.sets.drop i)/\
  fr=[(3,.c (.fp (zi x))),(7,.c (.int .i64 N)),(9,.c (.int .i64 k))]/\V=E G []) ?_ _ _ _ ⟨0,_,rfl,yad _,rfl,rfl,rfl,rfl⟩)
 rintro m fr V ⟨i,k,rfl,hi,hk,hsl,rfl,rfl⟩ hrec;by_cases hlt:i<x.sets.length
 ·have hd:=yab hlt;have hstep:za6 N [] x.sets=(jc3 N x.sets[i]&& !((x.sets.take i).any λy=>y.col==x.sets[i].col)&&za6 N (x.sets.take (i+1)) (x.sets.drop (i+1))):=by
   rw[hsl,hd,za6,yaj hlt]
  repeat' first|refine X ?_|((first|apply yG|apply yH|apply yI);exact rfl;(first|exact yax wi hk hlt))|((first|apply Go.pcallB|apply Go.spcallB|apply Qg.pcallB);(iterate 3 exact rfl);(first|exact wa4 _ _ _|exact hex x.sets[i].expr (q4.2 _ (yaa hlt)).1);intro _ _)|exact yaF|refine Y ?_ ?_<;>intro _
  all_goals try(refine .ret rfl (.bool ?_);rw[jg9,hstep,jc3,<-hw];clear hrec hsl hstep hex;simp_all;done)
  have hcol:jc3 N x.sets[i]=true:=(by rw[jc3,<-hw];clear hrec hsl hstep hex;simp_all)
  refine Go.keep [3,7,9,10] (Go.loops (I:=λm fr V=>∃j:Nat,∃q:Int,m=i-j/\j<=i/\q=j/\(∀a (ha:a<x.sets.length),a<j->(x.sets[a].col==x.sets[i].col)=false)/\
   fr=[(3,.c (.fp (zi x))),(7,.c (.int .i64 N)),(9,.c (.int .i64 k)),(10,.c (.int .i64 q))]/\V=E G []) ?_ _ _ _ ⟨0,_,rfl,yad _,rfl,λj _ h=>absurd h O,rfl,rfl⟩)
  rintro m fr V ⟨j,q,rfl,hj,hq,hall,rfl,rfl⟩ hrec2;by_cases hlj:j<i
  ·have hjl:j<x.sets.length:=O;repeat' first|refine X ?_|((first|apply yG|apply yH|apply yI);exact rfl;(first|exact yax wi hq hjl|exact yax wi hk hlt))|exact yaF|refine Y ?_ ?_<;>intro _
   ·rename_i he;have hany:((x.sets.take i).any λy=>y.col==x.sets[i].col)=true:=List.any_eq_true.2 ⟨x.sets[j],List.mem_take_iff_getElem.2 ⟨j,O,rfl⟩,by simpa using he⟩;refine .ret rfl (.bool ?_);rw[jg9,hstep,hany];simp
   ·rename_i he;refine Go.keep [3,7,9,10] (hrec2 _ _ _ O ⟨j+1,_,rfl,hlj,wb hq O,λa ha h=>?_,rfl,rfl⟩);by_cases hja:a=j
    ·subst hja;simpa using he
    ·exact hall a ha O
  ·have hany:((x.sets.take i).any λy=>y.col==x.sets[i].col)=false:=by
    rw[ybr];intro y hy;obtain⟨a,ha,rfl⟩:=List.mem_take_iff_getElem.1 hy;have:=hall a O O;simp[this]
   clear hrec2 hall;repeat' first|refine X ?_|exact yaF|refine Y ?_ ?_<;>intro _
   refine Go.keep [3,7,9] (hrec _ _ _ O ⟨i+1,_,rfl,hlt,wb hk O, ?_,rfl,rfl⟩);rw[hstep,hcol,hany]
   rfl
 have hsets:jg9 x.sets N=true:=by
  rw[jg9,hsl,yac O]
  rfl
 clear hrec hsl;rw[hsets];repeat' first|refine X ?_|((first|apply Go.pcallB|apply Go.spcallB|apply Qg.pcallB);(iterate 3 exact rfl);exact hex x.wher q3.1;intro _ _)|exact yaF|refine Y ?_ ?_<;>intro _
 all_goals refine .ret rfl (.bool ?_)
 all_goals have hadd1:IntKind.i64.wrap ((x.wher.length:Int)+x.sets.length)=x.wher.length+x.sets.length:=jg O O
 all_goals have hadd2:IntKind.i64.wrap ((x.rows.length:Int)+x.sets.length)=x.rows.length+x.sets.length:=jg O O
 all_goals simp only[zii,nil?,wbt,hadd1,hadd2]
 all_goals clear hadd1 hadd2 hsets hex hw q1 q3 q4 hx hn
 all_goals have p1:(0:Int)<=x.rows.length:=O
 all_goals have p2:(0:Int)<=x.wher.length:=O
 all_goals have p3:(0:Int)<=x.sets.length:=O
 all_goals generalize (x.rows.length:Int)=a at*
 all_goals generalize (x.wher.length:Int)=b at*
 all_goals generalize (x.sets.length:Int)=c at*
 all_goals rw[ybc]
 all_goals simp_all
 all_goals omega
def za9(t:zd)(old:List Val):List SetS->List Val->Option (List Val)
 |[],cur=>some cur
 |a::r,cur=>if((za5 a.expr old).2&&((za5 a.expr old).1.k==0||(za5 a.expr old).1.k==zdk t a.col))=true then za9 t old r (cur.set a.col.toNat (za5 a.expr old).1)else none
def insJ(s:List zd)(k:Nat)(x:Stmt)(vals:List Val)(db:List Data):Res:=((insF (chgF s 12) s k (if(x.policy==3)=true then jl (tabN s k) 0 vals else vals) (x.policy==3) db).1,(insF (chgF s 12) s k (if(x.policy==3)=true then jl (tabN s k) 0 vals else vals) (x.policy==3) db).2.2)
def rowJ(s:List zd)(k:Nat)(x:Stmt)(r:RowD)(db:List Data):Res:=if x.kind=3 then chgF s 13 (.del k r.id) db else match za9 (tabN s k) r.vals x.sets r.vals with
 |none=>([],8)
 |some vals=>chgF s 13 (.upd k r.id vals (x.policy==3)) db
def jl9(x:Stmt)(c:Int):Bool:=x.policy==2&&isIn c 2 4
def wdh(db0:List Data)(x:Stmt):List (List Data->Res)->List Data->Int->Ins
 |[],now,m=>(now,0,m)
 |j::r,now,m=>if(j now).2=0 then wdh db0 x r (j now).1 (m+1)else if(j now).2=-1\/jl9 x (j now).2=true then wdh db0 x r now m else if x.policy=1/\¬(j now).2=5 then(now,(j now).2,m)else(db0,(j now).2,0)
structure StG(t:zd)(x:Stmt):Prop where
 kind:x.kind=1\/x.kind=2\/x.kind=3
 ins:x.kind=1->x.wher=[]
 rows:x.rows.length<=8/\∀r∈x.rows,fitF t r.vals=true
 wher:x.wher.length<=24/\(0<x.wher.length->war x.wher t.cols.length=true)
 sets:x.sets.length<=34359738368/\∀a∈x.sets,jc3 t.cols.length a=true
theorem zgt{n:Int}:∀{l pre:List SetS},za6 n pre l=true->∀a∈l,jc3 n a=true
 |[],_,_,a,h=>by cases h
 |y::r,pre,h,a,ha=>by
  simp only[za6,Bool.and_eq_true]at h;rcases List.mem_cons.1 ha with rfl|ha
  ·exact h.1.1
  ·exact zgt h.2 a ha
theorem zm7{α:Type}{l:List α}:nil? l=true↔l=[]:=by
 rw[nil?,beq_iff_eq];constructor
 ·intro h;exact yal O
 ·intro h;rw[h]
  rfl
theorem wl9{x:Stmt}(hq:zes 34359738368 x)(h:l7F s x=true):∃k,∃hk:k<s.length,idxA (λu:zd=>u.name==x.table) s 0=(k:Int)/\StG s[k] x:=by
 rw[l7F]at h;rcases jdb (λu:zd=>u.name==x.table) s 0 with⟨h1,_⟩|⟨k,hk,h1,_⟩
 ·rw[zb2 h1]at h
  cases h
 ·have h2:idxA (λu:zd=>u.name==x.table) s 0=(k:Int):=by rw[h1];omega
  rw[wa5 h2 hk]at h;simp only[Bool.and_eq_true,decide_eq_true_eq]at h;obtain⟨h3,h4,h5,h6⟩:=h;rw[zdl,yat,yat,Bool.not_eq_true']at h6;obtain⟨h7,h8,h9⟩:=h6;have hw:x.wher=[]\/war x.wher s[k].cols.length=true:=by
   rw[wbt,Bool.or_eq_true,beq_iff_eq]at h8;rcases h8 with h8|h8
   ·exact .inl (yal O)
   ·exact .inr h8
  refine⟨k,hk,h2, ?_, ?_,⟨O,λr hr=>?_⟩, ?_, ?_⟩
  ·rw[zii]at h4;split at h4
   ·rename_i h;exact .inl h
   ·split at h4
    ·rename_i h;exact .inr (.inl h)
    ·rw[yat,decide_eq_true_eq]at h4;exact .inr (.inr h4.1)
  ·intro h1;rw[zii,if_pos h1,yat]at h4;exact zm7.1 h4.1
  ·rw[ybr]at h7;have:=h7 r hr;rw[wc6]at this;simp only[Bool.or_eq_true,Bool.not_eq_true',not_or,Bool.not_eq_false]at this;exact this.2
  ·rcases hw with hw|hw
   ·rw[hw];exact⟨Nat.zero_le _,λh=>by simp at h⟩
   ·exact⟨by have:=(zbi hw).1;omega,λ_=>hw⟩
  ·exact⟨hq.2.2.2.1,zgt h9⟩
theorem zho{row:List Val}(hr:Oks row){n:Int}:∀{e:List Tok} {a:Int} {st q:List Val},z5 n a e=true->Oks st->zg9 row e st=some q->Oks q
 |[],a,st,q,_,hs,h=>by injection h with h;subst h;exact hs
 |t::e,a,st,q,hx,hs,h=>by
  obtain⟨h1,h2,h3⟩:=wc2 hx;rw[zg9]at h;split at h
  ·rename_i hk;exact zho hr h3 ((hs.take _).snoc (wgh (λh2=>jdt h1 h2) (hs.drop _) hr hk)) h
  ·cases h
theorem wkq{e:List Tok}{row:List Val}(hr:Oks row)(he:war e row.length=true)(h:(za5 e row).2=true):ju (za5 e row).1=true:=by
 obtain⟨_,he⟩:=zbi he;rw[za5]at h⊢;split at h
 ·rename_i v r hq;exact zho hr he (λv hv=>by simp at hv) hq v gx
 ·cases h
def znx:Option (List Val)->AV
 |none=>.tup [.c .nils,.c (.bool false)]
 |some vals=>.tup [.c (.fz (vals.map encV)),.c (.bool true)]
theorem jii:FrzV V n (.tup [.c .nils,.c (.bool false)]) (znx none):=by
 refine .tup rfl λj hj=>?_;have hj2:j<2:=hj;have hj3:j=0\/j=1:=O;rcases hj3 with rfl|rfl
 ·exact .c (.same _ .nils)
 ·exact .c (.same _ (.bool _))
theorem wkd(t:zd)(old:List Val)(sets:List SetS)(hl:old.length=t.cols.length)(h0:old≠[])(hv:jt old 16=true)(hs:sets.length<=34359738368)(ha:∀a∈sets,jc3 t.cols.length a=true):
 Pure Tryz.prog 258 [.agg (ja t),.c (.fz (old.map encV)),.c (.fz (sets.map wi))] (znx (za9 t old sets old)):=by
 refine yaq [3] zf6 λG=>?_;obtain⟨hv16,hvo⟩:=zf.1 hv;have cm:=(wcl old (yaf hv16 gb)).at0 G;repeat' first|refine X ?_|exact yaF|refine Y ?_ ?_<;>intro _
 refine .call _ rfl rfl rfl cm ?_;rintro q V9 ⟨v,junk,hj,hq,ht⟩;rw[hq,ht];clear hq ht cm;repeat' first|refine X ?_|exact yaF|refine Y ?_ ?_<;>intro _
 refine Go.keep [1,2,3,8,9] (Go.loops (I:=λm fr V=>∃(i:Nat) (k:Int) (cur:List Val),m=sets.length-i/\i<=sets.length/\k=i/\(cur.length=old.length/\za9 t old sets old=za9 t old (sets.drop i) cur)/\
  fr=[(1,.c (.fz (old.map encV))),(2,.c (.fz (sets.map wi))),(3,.c (.fp (ja t))),(8,.c (vec (G.next+0) v (old.map encV) junk)),(9,.c (.int .i64 k))]/\V=E G [(v,cur.map encV++junk)]) ?_ _ _ _ ⟨0,_,old,rfl,yad _,rfl,⟨rfl,rfl⟩,rfl,rfl⟩)
 rintro m fr V ⟨i,k,cur,rfl,hi,hk,⟨hcl,hst⟩,rfl,rfl⟩ hrec;by_cases hlt:i<sets.length
 ·have hsa:=ha _ (yaa hlt);rw[jc3,yat]at hsa;obtain⟨hcol,hex⟩:=hsa;obtain⟨q1,q2⟩:=wl0 hcol;rw[<-hl]at hex;obtain⟨he1,he2⟩:=zbi hex;have hcc:sets[i].col=(sets[i].col.toNat:Int):=O;have hct:sets[i].col.toNat<t.cols.length:=O;have hcv:sets[i].col.toNat<cur.length:=O;have hcm:sets[i].col.toNat<(old.map encV).length:=by rw[yae];omega
  have hkd:zdk t sets[i].col=t.cols[sets[i].col.toNat].kind:=jbi hcc hct;have c1:=zgj sets[i].expr old O hv16 hvo he2;rw[yab hlt,za9,hkd]at hst;generalize za5 sets[i].expr old=ev at c1 hst;obtain⟨w,b⟩:=ev;simp only at c1 hst
  cases b
  ·rw[ybi,if_neg yah]at hst;rw[hst];repeat' first|refine X ?_|((first|apply yG|apply yH|apply yI);exact rfl;(first|exact yax wi hk hlt|exact yax ji hcc hct))|refine yaC (c1) ?_|exact yaF|refine Y ?_ ?_<;>intro _
   all_goals first
    |exact .ret rfl ⟨_,rfl,jii⟩
    |(exfalso;simp_all;done)
  ·rw[yaz]at hst;have hgo:za9 t old sets old=za9 t old (sets.drop (i+1)) (cur.set sets[i].col.toNat w)->∃(j:Nat) (kj:Int) (cur':List Val),sets.length-(i+1)=sets.length-j/\j<=sets.length/\kj=j/\(cur'.length=old.length/\za9 t old sets old=za9 t old (sets.drop j) cur')/\[(1,AV.c (.fz (old.map encV))),(2,.c (.fz (sets.map wi))),(3,.c (.fp (ja t))),(8,.c (vec (G.next+0) v (old.map encV) junk)),(9,.c (.int .i64 (IntKind.i64.wrap (k+1))))]=[(1,AV.c (.fz (old.map encV))),(2,.c (.fz (sets.map wi))),(3,.c (.fp (ja t))),(8,.c (vec (G.next+0) v (old.map encV) junk)),(9,.c (.int .i64 kj))]/\E G [(v,(cur.map encV++junk).set (0+sets[i].col.toNat) (zj (encV cur[sets[i].col.toNat]) 0 (encV w)))]=E G [(v,cur'.map encV++junk)]:=λh=>⟨i+1,_,_,rfl,hlt,wb hk O,⟨by rw[yarq];exact hcl,h⟩,rfl,congrArg (E G) (congrArg (λz=>[(v,z)]) (zcm hcv _ w))⟩;by_cases h0:w.k=0
   ·rw[beq_iff_eq.2 h0,Bool.true_or,if_pos rfl]at hst;repeat' first|refine X ?_|((first|apply yG|apply yH|apply yI);exact rfl;(first|exact yax wi hk hlt|exact yax ji hcc hct|exact z9 (k:=0) rfl rfl hcc hcm rfl (way hcv) rfl|exact jm (k:=0) rfl rfl rfl rfl (way hcv) rfl gz))|refine yaC (c1) ?_|exact yaF|refine Y ?_ ?_<;>intro _
    all_goals first
     |exact Go.keep [1,2,3,8,9] (hrec _ _ _ O (hgo hst))
     |(exfalso;simp_all;done)
   ·by_cases h1:w.k=t.cols[sets[i].col.toNat].kind
    ·rw[beq_iff_eq.2 h1,Bool.or_true,if_pos rfl]at hst;repeat' first|refine X ?_|((first|apply yG|apply yH|apply yI);exact rfl;(first|exact yax wi hk hlt|exact yax ji hcc hct|exact z9 (k:=0) rfl rfl hcc hcm rfl (way hcv) rfl|exact jm (k:=0) rfl rfl rfl rfl (way hcv) rfl gz))|refine yaC (c1) ?_|exact yaF|refine Y ?_ ?_<;>intro _
     all_goals first
      |exact Go.keep [1,2,3,8,9] (hrec _ _ _ O (hgo hst))
      |(exfalso;simp_all;done)
    ·rw[beq_eq_false_iff_ne.2 h0,beq_eq_false_iff_ne.2 h1,if_neg gx]at hst;rw[hst];repeat' first|refine X ?_|((first|apply yG|apply yH|apply yI);exact rfl;(first|exact yax wi hk hlt|exact yax ji hcc hct|exact z9 (k:=0) rfl rfl hcc hcm rfl (way hcv) rfl|exact jm (k:=0) rfl rfl rfl rfl (way hcv) rfl gz))|refine yaC (c1) ?_|exact yaF|refine Y ?_ ?_<;>intro _
     all_goals first
      |exact .ret rfl ⟨_,rfl,jii⟩
      |(exfalso;simp_all;done)
 ·clear hrec;rw[yac O,za9]at hst;rw[hst];repeat' first|refine X ?_|exact yaF|refine Y ?_ ?_<;>intro _
  refine .ret rfl ⟨_,rfl, ?_⟩;have hvv:vec (G.next+0) v (old.map encV) junk=vec (G.next+0) v (cur.map encV) junk:=by rw[vec,vec,yae,yae,hcl]
  rw[hvv];refine .tup rfl λj hj=>?_;have hj2:j<2:=hj;have hj3:j=0\/j=1:=O;rcases hj3 with rfl|rfl
  ·exact jbu (k:=0) rfl (λe he x hx=>((jcq e he).2 x hx).old _) (yai _)
  ·exact .c (.same _ (.bool _))
theorem jec{t:zd}{old:List Val}:∀{sets:List SetS} {cur vals:List Val},za9 t old sets cur=some vals->vals.length=cur.length
 |[],cur,vals,h=>by injection h with h;rw[<-h]
 |a::r,cur,vals,h=>by
  rw[za9]at h;split at h
  ·have:=jec h;rwa [yarq]at this
  ·cases h
theorem wec{t:zd}{old:List Val}(ho:Oks old){n:Int}(hn:(old.length:Int)=n):∀{sets:List SetS} {cur vals:List Val},(∀a∈sets,jc3 n a=true)->(∀v∈cur,ju v=true)->za9 t old sets cur=some vals->∀v∈vals,ju v=true
 |[],cur,vals,_,hc,h=>by injection h with h;rw[<-h];exact hc
 |a::r,cur,vals,ha,hc,h=>by
  rw[za9]at h;split at h
  ·rename_i hk;rw[yat]at hk;have hs:=ha a gx;rw[jc3,yat,<-hn]at hs;have hw:=wkq ho hs.2 hk.1;refine wec ho hn (λa ha2=>ha a (by simp[ha2])) (λv hv=>?_) h;rcases ybe hv with hv|rfl
   ·exact hc v hv
   ·exact hw
  ·cases h
theorem zke(hs:SchG s){k:Nat}(hk:k<s.length)(x:Stmt)(hx:x.kind=1)(id:Int)(vals:List Val)(hf:fitF s[k] vals=true)(db:List Data)(h:DbG BI s db):
 Pure Tryz.prog 163 [.c (.fz (s.map ja)),.c (.fz (db.map jb)),.c (.int .i64 (k:Int)),.agg (zi x),.c (.int .i64 id),.c (.fz (vals.map encV))] (resV (insJ s k x vals db)):=by
 refine yas jcw λG=>?_;have hva:=zck hf (hs.tab _ (yaa hk)).cols8;have hdn:=whn h hk;have c1:=we3 hs hk vals (x.policy==3) db rfl hdn (wax hf).1 hva;rw[insJ,zr hk];generalize insF (chgF s 12) s k (if(x.policy==3)=true then jl s[k] 0 vals else vals) (x.policy==3) db=q at c1⊢;obtain⟨qd,qi,qc⟩:=q;rw[resI]at c1;simp only at c1;have hr:resV (qd,qc)=.tup [.c (if qc=0 then .fz (qd.map jb)else .nils),.c (.int .i64 qc)]:=rfl;generalize hz:(if qc=0 then Ce.fz (qd.map jb)else .nils)=z at c1 hr;have hx1:(x.kind==1)=true:=beq_iff_eq.2 hx;repeat' first|refine X ?_|refine yaC (c1) ?_|exact yaF|refine Y ?_ ?_<;>intro _
 all_goals first
  |contradiction
  |exact .ret rfl (Fin.same hr.symm (zg _ _))
theorem jke(hs:SchG s){k:Nat}(hk:k<s.length)(x:Stmt)(hG:StG s[k] x)(hx:¬x.kind=1)(id:Int)(vals:List Val)(db:List Data)(h:DbG BI s db){r:RowD}(hr:wav (jv db k) id=some r):
 Pure Tryz.prog 163 [.c (.fz (s.map ja)),.c (.fz (db.map jb)),.c (.int .i64 (k:Int)),.agg (zi x),.c (.int .i64 id),.c (.fz (vals.map encV))] (resV (rowJ s k x r db)):=by
 refine yas jcw λG=>?_;have hk2:k<db.length:=by rw[h.len];exact hk
 have hR:=h.rows k hk hk2;have hrun:=jkd (I:=BI) hs 13 0 gb rfl;have hid:r.id=id:=(z8 hr).2;rw[rowJ];by_cases h3:x.kind=3
 ·rw[if_pos h3,hid];have c1:=hrun.del k id db r h hk hr;generalize chgF s 13 (.del k id) db=q at c1⊢;have hq:resV q=.tup [.c (if q.2=0 then .fz (q.1.map jb)else .nils),.c (.int .i64 q.2)]:=rfl;rw[hq]at c1;generalize (if q.2=0 then Ce.fz (q.1.map jb)else .nils)=z at c1 hq;repeat' first|refine X ?_|refine yaC (c1) ?_|exact yaF|refine Y ?_ ?_<;>intro _
  all_goals first
   |contradiction
   |(exfalso;omega)
   |exact .ret rfl (Fin.same hq.symm (zg _ _))
 ·rw[if_neg h3];rw[jf hk2]at hr;rcases zl db[k].rows id with⟨_,hx2⟩|⟨j,hj,hx1,hx2⟩
  ·rw[hx2]at hr
   cases hr
  ·rw[hx2]at hr;injection hr with hr;subst hr;have c2:=zai db[k] id (yaf hR.len gb);rw[hx1]at c2;obtain⟨hfl,hfv⟩:=hR.fit _ (yaa hj);have ht:=hs.tab _ (yaa hk);have hne:db[k].rows[j].vals≠[]:=λe=>by
    rw[e]at hfl;have:=ht.cols0;simp at hfl;omega
   have c3:=wkd s[k] db[k].rows[j].vals x.sets hfl hne hfv hG.sets.1 hG.sets.2;rw[zr hk,hid]
   cases hvf:za9 s[k] db[k].rows[j].vals x.sets db[k].rows[j].vals with
   |none=>
    rw[hvf]at c3;have c3:Pure _ _ _ (.tup [.c .nils,.c (.bool false)]):=c3;repeat' first|refine X ?_|((first|apply yG|apply yH|apply yI);exact rfl;(first|exact yax ja rfl hk|exact yax jb rfl hk2|exact yax jc rfl hj))|refine yaC (c2) ?_|refine yaC (c3) ?_|exact yaF|refine Y ?_ ?_<;>intro _
    all_goals first
     |contradiction
     |(exfalso;omega)
     |exact .ret rfl (Fin.same rfl (zg ([],8) _))
   |some nv=>
    rw[hvf]at c3;have c3:Pure _ _ _ (.tup [.c (.fz (nv.map encV)),.c (.bool true)]):=c3;have hl2:nv.length=s[k].cols.length:=(jec hvf).trans hfl;have hok2:jt nv 16=true:=zf.2 ⟨by rw[hl2,<-hfl];exact(zf.1 hfv).1,wec (zf.1 hfv).2 (n:=s[k].cols.length) (by rw[hfl]) hG.sets.2 (zf.1 hfv).2 hvf⟩;have c4:=hrun.upd k id nv (x.policy==3) db h ⟨hk,hl2,hok2⟩;show Go _ _ _ _ (Fin G (resV (chgF s 13 (.upd k id nv (x.policy==3)) db))) _ _ _;generalize chgF s 13 (.upd k id nv (x.policy==3)) db=q at c4⊢;have hq:resV q=.tup [.c (if q.2=0 then .fz (q.1.map jb)else .nils),.c (.int .i64 q.2)]:=rfl;rw[hq]at c4;generalize (if q.2=0 then Ce.fz (q.1.map jb)else .nils)=z at c4 hq;repeat' first|refine X ?_|((first|apply yG|apply yH|apply yI);exact rfl;(first|exact yax ja rfl hk|exact yax jb rfl hk2|exact yax jc rfl hj))|refine yaC (c2) ?_|refine yaC (c3) ?_|refine yaC (c4) ?_|exact yaF|refine Y ?_ ?_<;>intro _
    all_goals first
     |contradiction
     |(exfalso;omega)
     |exact .ret rfl (Fin.same hq.symm (zg _ _))
theorem wke(hs:SchG s){k:Nat}(hk:k<s.length){x:Stmt}{vals:List Val}(hf:fitF s[k] vals=true){db:List Data}(h:DbG BI s db)(h0:(insJ s k x vals db).2=0):DbG BI s (insJ s k x vals db).1:=by
 have hva:=zck hf (hs.tab _ (yaa hk)).cols8;have:=zl8 hs hk (rep:=x.policy==3) (whk hs hk (wax hf).1 hva (x.policy==3)) (whn h hk);rw[insJ,zr hk]at h0⊢;exact this h0
theorem zkf(hs:SchG s){k:Nat}(hk:k<s.length){x:Stmt}(hG:StG s[k] x){r:RowD}{db:List Data}(h:DbG BI s db)(hr:r∈jv db k)(h0:(rowJ s k x r db).2=0):DbG BI s (rowJ s k x r db).1:=by
 obtain⟨hfl,hfv⟩:=(h.at hk).fit r hr;have hkp:=zbe (I:=BI) hs 13;revert h0;rw[rowJ];split
 ·exact hkp (.del k r.id) db h hk
 ·rw[zr hk]
  cases hvf:za9 s[k] r.vals x.sets r.vals with
  |none=>exactλh=>by cases h
  |some nv=>
   have hl2:nv.length=s[k].cols.length:=(jec hvf).trans hfl;have hok2:jt nv 16=true:=zf.2 ⟨by rw[hl2,<-hfl];exact(zf.1 hfv).1,wec (zf.1 hfv).2 (n:=s[k].cols.length) (by rw[hfl]) hG.sets.2 (zf.1 hfv).2 hvf⟩;exact hkp (.upd k r.id nv (x.policy==3)) db h ⟨hk,hl2,hok2⟩
def Cod(run:Chg->List Data->Res):Prop:=∀op db,0<=(run op db).2
section
variable {run:Chg->List Data->Res}
theorem zc7(hr:Cod run){n:Nat}:∀(l:List Int) (db:List Data),0<=(zaa run n l db).2
 |[],_=>yaxq _
 |id::l,db=>by
  rw[zaa];split
  ·exact zc7 hr l db
  ·split
   ·exact zc7 hr l _
   ·exact hr _ _
theorem jho(hr:Cod run){t:zd}{n:Nat}{x:RowD}{rep:Bool}{db:List Data}:0<=(wad run t n x rep db).2:=by
 rw[wad];split
 ·exact(by decide:(0:Int)<=4)
 ·exact zc7 hr _ _
theorem jm7(hr:Cod run){n:Nat}{y:Way}{wth:List Val}{gone:Bool}{x:RowD}{db:List Data}:0<=(oneF run n y wth gone x db).2:=by
 rw[oneF];split
 ·split
  ·exact yaxq _
  ·exact(by decide:(0:Int)<=5)
 ·split
  ·exact hr _ _
  ·exact hr _ _
theorem zcn(hr:Cod run){n:Nat}{y:Way}{key wth:List Val}{gone:Bool}:∀(l:List Int) (db:List Data),0<=(wag run n y key wth gone l db).2
 |[],_=>yaxq _
 |id::l,db=>by
  rw[wag]
  cases wav (jv db n) id with
  |none=>exact zcn hr l db
  |some x=>
   simp only;split
   ·split
    ·exact zcn hr l _
    ·exact jm7 hr
   ·exact zcn hr l db
theorem jev(hr:Cod run){name:List UInt8}{i:Nat}{key wth:List Val}{gone:Bool}:∀(l:List Fk) (db:List Data),0<=(zbb run name i key wth gone l db).2
 |[],_=>yaxq _
 |f::l,db=>by
  rw[zbb];split
  ·split
   ·exact jev hr l _
   ·exact zcn hr _ _
  ·exact jev hr l db
theorem jc7(hr:Cod run){name:List UInt8}{key wth:List Val}{gone:Bool}:∀(i:Nat) (l:List zd) (db:List Data),0<=(zam run name key wth gone i l db).2
 |_,[],_=>yaxq _
 |i,t::l,db=>by
  rw[zam];split
  ·exact jc7 hr _ l _
  ·exact jev hr _ _
theorem jjj:0<=zcd t vals:=by
 rw[zcd];split
 ·decide
 ·split<;>decide
theorem zma{id:Int}:0<=(wbd s n id db).2:=by
 rw[wbd]
 cases wav (jv db n) id with
 |none=>exact yaxq _
 |some y=>
  simp only;split
  ·exact(by decide:(0:Int)<=5)
  ·exact yaxq _
theorem wm7(hr:Cod run){s:List zd}{n:Nat}{id:Int}{vals:List Val}{rep:Bool}{db:List Data}:0<=(updF run s n id vals rep db).2:=by
 rw[updF];split
 ·rw[upd1];split
  ·cases wav (jv (wad run (tabN s n) n ⟨id,vals⟩ rep db).1 n) id with
   |none=>exact(by decide:(0:Int)<=9)
   |some old=>
    simp only[upd3];split
    ·exact zma
    ·rw[upd2];split
     ·exact yaxq _
     ·exact jc7 hr _ _ _
  ·exact jho hr
 ·exact jjj
end
theorem zed{s:List zd}:∀k,Cod (chgF s k)
 |0,op,db=>by rw[chgF];exact(by decide:(0:Int)<=6)
 |k+1,.del n id,db=>by
  rw[chgF]
  cases wav (jv db n) id with
  |none=>exact(by decide:(0:Int)<=9)
  |some x=>exact jc7 (zed k) _ _ _
 |k+1,.upd n id vals rep,db=>by
  rw[chgF];exact wm7 (zed k)
theorem wfn{rep:Bool}:0<=(insF (chgF s 12) s k vals rep db).2.2:=by
 rw[insF];split
 ·rw[insC];split
  ·rw[insD];split
   ·exact(by decide:(0:Int)<=7)
   ·rw[insE];split
    ·exact(by decide:(0:Int)<=5)
    ·exact yaxq _
  ·exact jho (zed 12)
 ·exact jjj
theorem zm8{x:Stmt}{r:RowD}:0<=(rowJ s k x r db).2:=by
 rw[rowJ];split
 ·exact zed 13 _ _
 ·cases za9 (tabN s k) r.vals x.sets r.vals with
  |none=>exact(by decide:(0:Int)<=8)
  |some nv=>exact zed 13 _ _
def insV(q:Ins):AV:=.tup [.c (.fz (q.1.map jb)),.c (.int .i64 q.2.1),.c (.int .i64 q.2.2)]
theorem wev{l:List RowD}{w:List Tok}:(wak l w).1.length<=l.length:=by
 have key:∀(l:List RowD) (acc ids:List Int),wal w l acc=some ids->ids.length<=acc.length+l.length:=by
  intro l
  induction l with
  |nil=>intro acc ids h;injection h with h;rw[<-h];simp
  |cons r l ih=>
   intro acc ids h;rw[wal]at h;split at h
   ·cases h
   ·have:=ih _ _ h;split at this
    ·simp at this⊢;omega
    ·simp at this⊢;omega
 rw[wak]
 cases h:wal w l []with
 |none=>simp
 |some ids=>simpa using key l [] ids h
def ze4(u v:zd)(x:we):Bool:=wbt x.when_ (2*u.cols.length)&&(decide ((x.terms.length:Int)=v.cols.length)&&zhj x.terms (2*u.cols.length))
def wbv(s:List zd)(x:we):Bool:=match jjc s x.table,jjc s x.into with
 |some u,some v=>isIn x.event 1 3&&ze4 u v x
 |_,_=>false
def wl(s:List zd)(l:List we):Bool:=js s&&(decide ((l.length:Int)<=6)&& !(l.any λx=> !wbv s x))
theorem jnx(h:k<=8):IntKind.i64.wrap (2*(k:Int))=2*k:=jg O O
theorem wjj(s:List zd)(x:we)(hs:js s=true)(hx:s.length<=34359738368)(hq:w9 34359738368 x):Pure Tryz.prog 184 [.c (.fz (s.map ja)),.agg (wc x)] (.c (.bool (wbv s x))):=by
 refine yaq [3] jfc λG=>?_;obtain⟨q1,q2,q3,q4⟩:=hq;have c1:=zav s x.table hx;have c2:=zav s x.into hx;rcases jb6 (p:=λu:zd=>u.name==x.table) (l:=s) (i:=0) (yaxq _)with hi|⟨n,hn,hi,hp⟩
 ·have hno:wbv s x=false:=by rw[wbv,zb2 hi]
  rw[hi]at c1;repeat' first|refine X ?_|refine yaC (c1) ?_|((first|apply Go.pcallI|apply Go.spcallI|apply Qg.pcallI);(iterate 3 exact rfl);exact c2;intro _ _)|exact yaF|refine Y ?_ ?_<;>intro _
  exact .ret rfl (.bool hno.symm)
 rw[ybw]at hi;have hyes:=wa5 hi hn;have hnz:¬((n:Int)<0):=O;rw[hi]at c1;rcases jb6 (p:=λu:zd=>u.name==x.into) (l:=s) (i:=0) (yaxq _)with hj|⟨m,hm,hj,hr⟩
 ·have hno:wbv s x=false:=by rw[wbv,zb2 hj,hyes]
  rw[hj]at c2;repeat' first|refine X ?_|refine yaC (c1) ?_|refine yaC (c2) ?_|exact yaF|refine Y ?_ ?_<;>intro _
  all_goals exact .ret rfl (.bool hno.symm)
 rw[ybw]at hj;have hyes2:=wa5 hj hm;have hmz:¬((m:Int)<0):=O;rw[hj]at c2;have hc:=wbi hs _ (yaa hn);have hw:=jnx hc.2;have hres:wbv s x=(isIn x.event 1 3&&ze4 s[n] s[m] x):=by rw[wbv,hyes,hyes2]
 rw[hres];repeat' first|refine X ?_|((first|apply yG|apply yH|apply yI);exact rfl;(first|exact yax ja rfl hn|exact yax ja rfl hm))|refine yaC (c1) ?_|refine yaC (c2) ?_|((first|apply Go.pcallB|apply Go.spcallB|apply Qg.pcallB);(iterate 3 exact rfl);(first|exact jfj _ _ _|exact zj7 x.terms (IntKind.i64.wrap (2*(s[n].cols.length:Int))) q4.1 q4.2 O O|exact jhj x.when_ (IntKind.i64.wrap (2*(s[n].cols.length:Int))) q2.1 O O);intro _ _)|exact yaF|refine Y ?_ ?_<;>intro _
 ·rename_i b p k;refine .ret rfl (.bool ?_);rw[nbT p k]
  rfl
 all_goals refine .ret rfl (.bool ?_)
 all_goals rw[ze4,<-hw]
 all_goals clear c1 c2
 all_goals simp_all
theorem wg9(s:List zd)(x:we)(hs:js s=true)(hx:s.length<=34359738368)(hq:w9 34359738368 x):Pure Tryz.prog 183 [.agg (wc x),.c (.fp [.fz (s.map ja)])] (.c (.bool (!wbv s x))):=by
 refine yaq [2] wdp λG=>?_;repeat' first|refine X ?_|refine yaC (wjj s x hs hx hq) ?_|exact yaF|refine Y ?_ ?_<;>intro _
 exact .ret rfl (.bool rfl)
theorem wii(s:List zd)(l:List we)(hx:s.length<=34359738368)(hb:∀t∈s,zah 34359738368 t)(hl:l.length<=34359738368)(hq:∀x∈l,w9 34359738368 x):Pure Tryz.prog 81 [.c (.fz (s.map ja)),.c (.fz (l.map wc))] (.c (.bool (wl s l))):=by
 refine yaq [2] jek λG=>?_;have c1:=jcj s hx hb
 cases hs:js s
 ·rw[hs]at c1;repeat' first|refine X ?_|refine yaC (c1) ?_|exact yaF|refine Y ?_ ?_<;>intro _
  refine .ret rfl (.bool ?_);rw[wl,hs]
  rfl
 rw[hs]at c1;repeat' first|refine X ?_|refine yaC (c1) ?_|((first|apply Go.pcallB|apply Go.spcallB|apply Qg.pcallB);(iterate 3 exact rfl);exact wj mixed ja8 zbk wc (λu=>.agg (wc u)) (λ_=>rfl) (λ_=>rfl) l (λx=> !wbv s x) _ [] [.fp [.fz (s.map ja)]] hl (λj hj _=>wg9 s _ hs hx (hq _ (yaa hj)));intro _ _)|exact yaF|refine Y ?_ ?_<;>intro _
 all_goals refine .ret rfl (.bool ?_)
 all_goals rw[wl,hs]
 all_goals clear c1
 ·rename_i h b hb;rw[decide_eq_true O,hb];simp
 ·rw[decide_eq_false O]
  rfl
theorem jm8(s:List zd)(x:we)(hs:js s=true)(hx:s.length<=34359738368)(hq:w9 34359738368 x):Pure Tryz.prog 158 [.c (.fz (s.map ja)),.agg (wc x)] (.c (.bool (wbv s x))):=by
 refine yaq [3] ziw λG=>?_;obtain⟨q1,q2,q3,q4⟩:=hq;have c1:=jc1 s x.table hx;have c2:=jc1 s x.into hx;rcases jb6 (p:=λu:zd=>u.name==x.table) (l:=s) (i:=0) (yaxq _)with hi|⟨n,hn,hi,hp⟩
 ·have hno:wbv s x=false:=by rw[wbv,zb2 hi]
  rw[hi]at c1;repeat' first|refine X ?_|refine yaC (c1) ?_|((first|apply Go.pcallI|apply Go.spcallI|apply Qg.pcallI);(iterate 3 exact rfl);exact c2;intro _ _)|exact yaF|refine Y ?_ ?_<;>intro _
  exact .ret rfl (.bool hno.symm)
 rw[ybw]at hi;have hyes:=wa5 hi hn;have hnz:¬((n:Int)<0):=O;rw[hi]at c1;rcases jb6 (p:=λu:zd=>u.name==x.into) (l:=s) (i:=0) (yaxq _)with hj|⟨m,hm,hj,hr⟩
 ·have hno:wbv s x=false:=by rw[wbv,zb2 hj,hyes]
  rw[hj]at c2;repeat' first|refine X ?_|refine yaC (c1) ?_|refine yaC (c2) ?_|exact yaF|refine Y ?_ ?_<;>intro _
  all_goals exact .ret rfl (.bool hno.symm)
 rw[ybw]at hj;have hyes2:=wa5 hj hm;have hmz:¬((m:Int)<0):=O;rw[hj]at c2;have hc:=wbi hs _ (yaa hn);have hw:=jnx hc.2;have hres:wbv s x=(isIn x.event 1 3&&ze4 s[n] s[m] x):=by rw[wbv,hyes,hyes2]
 rw[hres];repeat' first|refine X ?_|((first|apply yG|apply yH|apply yI);exact rfl;(first|exact yax ja rfl hn|exact yax ja rfl hm))|refine yaC (c1) ?_|refine yaC (c2) ?_|((first|apply Go.pcallB|apply Go.spcallB|apply Qg.pcallB);(iterate 3 exact rfl);exact wa4 _ _ _;intro _ _)|exact yaF|refine Y ?_ ?_<;>intro _
 ·rename_i b p k;refine .ret rfl (.bool ?_);rw[nbT p k]
  rfl
 ·rename_i b p k h;refine .ret rfl (.bool ?_);rw[ze4,decide_eq_false h];simp
 rename_i b p k hlen;have hlen:(x.terms.length:Int)=s[m].cols.length:=O;have hres2:(isIn x.event 1 3&&ze4 s[n] s[m] x)=(wbt x.when_ (IntKind.i64.wrap (2*s[n].cols.length))&&zhj x.terms (IntKind.i64.wrap (2*s[n].cols.length))):=by
  rw[nbF p k,ze4,decide_eq_true hlen,hw];simp
 rw[hres2];clear hres hres2 p hyes hyes2 hi hj hp hr c1 c2 hlen hnz hmz;have hex:∀e:List Tok,e.length<=34359738368->Pure Tryz.prog 145 [.c (.fz (e.map zh)),.c (.int .i64 (IntKind.i64.wrap (2*s[n].cols.length)))] (.c (.bool (war e (IntKind.i64.wrap (2*s[n].cols.length))))):=λe he=>zgg e _ he O O;clear k
 refine Go.keep [3,7,8] (Go.loops (I:=λm fr V=>∃i:Nat,∃k:Int,m=x.terms.length-i/\i<=x.terms.length/\k=i/\(∀j (hj:j<x.terms.length),j<i->war x.terms[j].expr (IntKind.i64.wrap (2*s[n].cols.length))=true)/\
  fr=[(3,.c (.fp (wc x))),(7,.c (.int .i64 (IntKind.i64.wrap (2*s[n].cols.length)))),(8,.c (.int .i64 k))]/\V=E G []) ?_ _ _ _ ⟨0,_,rfl,yad _,rfl,λj _ h=>absurd h O,rfl,rfl⟩)
 rintro m' fr V ⟨i,k,rfl,hi2,hk,hall,rfl,rfl⟩ hrec;generalize IntKind.i64.wrap (2*(s[n].cols.length:Int))=W at hex hall hrec⊢;by_cases hlt:i<x.terms.length
 ·repeat' first|refine X ?_|((first|apply yG|apply yH|apply yI);exact rfl;(first|exact yax zn hk hlt))|((first|apply Go.pcallB|apply Go.spcallB|apply Qg.pcallB);(iterate 3 exact rfl);exact hex x.terms[i].expr (q4.2 _ (yaa hlt)).1;intro _ _)|exact yaF|refine Y ?_ ?_<;>intro _
  ·rename_i c p k4;refine .ret rfl (.bool ?_);rw[zhj,whg (p:=λx:Term=>war x.expr W) hlt (nbT p k4)];simp
  ·rename_i c p k4;exact Go.keep [3,7,8] (hrec _ _ _ O ⟨i+1,_,rfl,hlt,wb hk O,upto (p:=λx:Term=>war x.expr W) hall hlt (nbF p k4),rfl,rfl⟩)
 have hterms:=wbo (p:=λx:Term=>war x.expr W) (l:=x.terms) λj hj=>hall j hj O;clear hrec hall;rw[zhj,hterms];repeat' first|refine X ?_|((first|apply Go.pcallB|apply Go.spcallB|apply Qg.pcallB);(iterate 3 exact rfl);exact hex x.when_ q2.1;intro _ _)|exact yaF|refine Y ?_ ?_<;>intro _
 all_goals refine .ret rfl (.bool ?_)
 ·rename_i h;rw[wbt,h]
  rfl
 ·rename_i h b hb;rw[wbt,hb,beq_eq_false_iff_ne.2 h];simp
theorem zha(s:List zd)(l:List we)(hx:s.length<=34359738368)(hb:∀t∈s,zah 34359738368 t)(hl:l.length<=34359738368)(hq:∀x∈l,w9 34359738368 x):Pure Tryz.prog 64 [.c (.fz (s.map ja)),.c (.fz (l.map wc))] (.c (.bool (wl s l))):=by
 refine yaq [] jej λG=>?_;have c1:=ze1 s hx hb
 cases hs:js s
 ·rw[hs]at c1;repeat' first|refine X ?_|exact yaF|refine Y ?_ ?_<;>intro _
  refine Go.keep [0,1,5] (Go.loops (I:=λm fr V=>fr=[(0,.c (.fz (s.map ja))),(1,.c (.fz (l.map wc))),(5,.c (.int .i64 0))]/\V=E G []) ?_ 0 _ _ ⟨rfl,rfl⟩);rintro m' fr V ⟨rfl,rfl⟩ hrec;repeat' first|refine X ?_|refine yaC (c1) ?_|exact yaF|refine Y ?_ ?_<;>intro _
  refine .ret rfl (.bool ?_);rw[wl,hs]
  rfl
 rw[hs]at c1;repeat' first|refine X ?_|exact yaF|refine Y ?_ ?_<;>intro _
 refine Go.keep [0,1,5] (Go.loops (I:=λm fr V=>∃i:Nat,∃k:Int,m=l.length-i/\i<=l.length/\k=i/\(∀j (hj:j<l.length),j<i->wbv s l[j]=true)/\
  fr=[(0,.c (.fz (s.map ja))),(1,.c (.fz (l.map wc))),(5,.c (.int .i64 k))]/\V=E G []) ?_ _ _ _ ⟨0,_,rfl,yad _,rfl,λj _ h=>absurd h O,rfl,rfl⟩)
 rintro m' fr V ⟨i,k,rfl,hi2,hk,hall,rfl,rfl⟩ hrec;by_cases hlt:i<l.length
 ·repeat' first|refine X ?_|((first|apply yG|apply yH|apply yI);exact rfl;(first|exact yax wc hk hlt))|refine yaC (c1) ?_|((first|apply Go.pcallB|apply Go.spcallB|apply Qg.pcallB);(iterate 3 exact rfl);exact jm8 s l[i] hs hx (hq _ (yaa hlt));intro _ _)|exact yaF|refine Y ?_ ?_<;>intro _
  ·rename_i c p k4;refine .ret rfl (.bool ?_);rw[wl,whg (p:=λx:we=>wbv s x) hlt (nbT p k4)];simp
  ·rename_i c p k4;exact Go.keep [0,1,5] (hrec _ _ _ O ⟨i+1,_,rfl,hlt,wb hk O,upto (p:=λx:we=>wbv s x) hall hlt (nbF p k4),rfl,rfl⟩)
 have hterms:=wbo (p:=λx:we=>wbv s x) (l:=l) λj hj=>hall j hj O;clear hrec hall;repeat' first|refine X ?_|refine yaC (c1) ?_|exact yaF|refine Y ?_ ?_<;>intro _
 refine .ret rfl (.bool ?_);rw[wl,hs,hterms];simp
theorem zkr{fr:Fr}{s v i m c:Nat}{x y:Opd}{u:Ce}{es zs:List (List Ce)}(hx:x.ev fr=some (.c (.sl (G.next+k) v i m c)))(hy:y.ev fr=some (.c u))(hu:(E G l).els u=some zs)(hl:l[k]?=some (v,es))(hi:i+m<=es.length)(hes:∀e∈es,e.length=s)(hzs:∀e∈zs,e.length=s)(hz:zs.length<=m):
 aop (.copy s x y) fr (E G l)=some (.c (.int .i64 zs.length),E G (l.set k (v,zj es i zs))):=by
 have hk:k<l.length:=(List.getElem?_eq_some_iff.1 hl).1;simp only[aop,hx,hy,zlj hl,hu];rw[if_pos ⟨trivial,hi,hes,hzs,hz⟩,jmm hk]
variable {z:List Ce}
theorem zij{c:Nat}(hl:l[k]?=some (0,List.replicate n z)):(E G l).els (.sl (G.next+k) 0 0 n c)=some (List.replicate n z):=by
 simp only[wa.els,zlj hl,List.length_replicate,Nat.zero_add,Nat.le_refl,and_self,if_true,List.drop_zero];rw[yan gx]
def jij(n:Nat):List Val:=List.replicate n z6
def half(n:Nat)(l:List Val):List Val:=if l=[]then jij n else l
def zaz(n:Nat)(old now:List Val):List Val:=half n old++half n now
theorem jgt(n:Nat):(jij n).map encV=List.replicate n [Ce.int .i64 0,.int .i64 0,.str []]:=by
 rw[jij,List.map_replicate]
 rfl
theorem wb2(n:Nat):half n []=jij n:=rfl
theorem zbw(n:Nat){l:List Val}(h:l≠[]):half n l=l:=by rw[half,if_neg h]
theorem jma{l:List Val}(h:l≠[]):¬((l.length:Int)=0):=by
 cases l with
 |nil=>exact absurd rfl h
 |cons a l=>simp only[List.length_cons];omega
theorem wgt{v:Nat}{ys:List Val}{zs junk:List (List Ce)}(e:zs=ys.map encV)(hl:l[0]?=some (v,zs++junk)):Fin G (.c (.fz (ys.map encV))) (.c (vec (G.next+0) v zs junk)) (E G l):=
 ⟨l,rfl,by subst e;exact zb6 (k:=0) hl (yai _)⟩
theorem jkf(n:Nat)(old now:List Val)(hn:n<=8)(ho:old.length<=8)(hw:now.length<=8):Pure Tryz.prog 191 [.c (.int .i64 (n:Int)),.c (.fz (old.map encV)),.c (.fz (now.map encV))] (.c (.fz ((zaz n old now).map encV))):=by
 refine yaq [] wjv λG=>?_;have hmk:32*n<=140737488355328:=O;have hrl:∀e∈List.replicate n [Ce.int .i64 0,.int .i64 0,.str []],e.length=3:=λe he=>by rw[ybj he];rfl
 have hlo:(old.map encV).length=old.length:=yae _;have hlw:(now.map encV).length=now.length:=yae _;have hlr:(List.replicate n [Ce.int IntKind.i64 0,.int .i64 0,.str []]).length=n:=ybn;by_cases h1:old=[]
 ·subst h1;by_cases h2:now=[]
  ·subst h2;repeat' first|refine X ?_|((first|apply yG|apply yH|apply yI);exact rfl;(first|exact zw rfl rfl hmk))|exact yaF|refine Y ?_ ?_<;>intro _
   apply Go.loop;repeat' first|refine X ?_|((first|apply yG|apply yH|apply yI);exact rfl;(first|exact zw rfl rfl hmk))|exact yaF|refine Y ?_ ?_<;>intro _
   refine Go.app (k:=0) (ys:=[]) (junk:=[]) (zs:=List.replicate n [Ce.int .i64 0,.int .i64 0,.str []]) rfl rfl rfl (zij (k:=1) rfl) rfl (λe he=>by simp at he) Jk.nil hrl gq λv1 j1 hj1=>?_;repeat' first|refine X ?_|exact yaF|refine Y ?_ ?_<;>intro _
   apply Go.lp;repeat' first|refine X ?_|((first|apply yG|apply yH|apply yI);exact rfl;(first|exact zw rfl rfl hmk))|exact yaF|refine Y ?_ ?_<;>intro _
   refine Go.app (k:=0) (ys:=[]++List.replicate n [Ce.int .i64 0,.int .i64 0,.str []]) (junk:=j1) (zs:=List.replicate n [Ce.int .i64 0,.int .i64 0,.str []]) rfl rfl rfl (zij (k:=2) rfl) rfl hrl hj1 hrl gq λv2 j2 hj2=>?_;repeat' first|refine X ?_|exact yaF|refine Y ?_ ?_<;>intro _
   apply Go.lp;repeat' first|refine X ?_|exact yaF|refine Y ?_ ?_<;>intro _
   refine .ret rfl (wgt ?_ rfl);simp only[zaz,wb2,wb2,List.map_append,List.nil_append,jgt]
  ·have hw0:=jma h2;repeat' first|refine X ?_|((first|apply yG|apply yH|apply yI);exact rfl;(first|exact zw rfl rfl hmk))|exact yaF|refine Y ?_ ?_<;>intro _
   apply Go.loop;repeat' first|refine X ?_|((first|apply yG|apply yH|apply yI);exact rfl;(first|exact zw rfl rfl hmk))|exact yaF|refine Y ?_ ?_<;>intro _
   refine Go.app (k:=0) (ys:=[]) (junk:=[]) (zs:=List.replicate n [Ce.int .i64 0,.int .i64 0,.str []]) rfl rfl rfl (zij (k:=1) rfl) rfl (λe he=>by simp at he) Jk.nil hrl gq λv1 j1 hj1=>?_;repeat' first|refine X ?_|exact yaF|refine Y ?_ ?_<;>intro _
   apply Go.lp;repeat' first|refine X ?_|((first|apply yG|apply yH|apply yI);exact rfl;(first|exact zw rfl rfl hmk))|exact yaF|refine Y ?_ ?_<;>intro _
   refine Go.app (k:=0) (ys:=[]++List.replicate n [Ce.int .i64 0,.int .i64 0,.str []]) (junk:=j1) (zs:=now.map encV) rfl rfl rfl rfl rfl hrl hj1 lens gq λv2 j2 hj2=>?_;repeat' first|refine X ?_|exact yaF|refine Y ?_ ?_<;>intro _
   apply Go.lp;repeat' first|refine X ?_|exact yaF|refine Y ?_ ?_<;>intro _
   refine .ret rfl (wgt ?_ rfl);simp only[zaz,wb2,zbw n h2,List.map_append,List.nil_append,jgt]
 ·have ho0:=jma h1;by_cases h2:now=[]
  ·subst h2;repeat' first|refine X ?_|((first|apply yG|apply yH|apply yI);exact rfl;(first|exact zw rfl rfl hmk))|exact yaF|refine Y ?_ ?_<;>intro _
   apply Go.loop;repeat' first|refine X ?_|((first|apply yG|apply yH|apply yI);exact rfl;(first|exact zw rfl rfl hmk))|exact yaF|refine Y ?_ ?_<;>intro _
   refine Go.app (k:=0) (ys:=[]) (junk:=[]) (zs:=old.map encV) rfl rfl rfl rfl rfl (λe he=>by simp at he) Jk.nil lens gq λv1 j1 hj1=>?_;repeat' first|refine X ?_|exact yaF|refine Y ?_ ?_<;>intro _
   apply Go.lp;repeat' first|refine X ?_|((first|apply yG|apply yH|apply yI);exact rfl;(first|exact zw rfl rfl hmk))|exact yaF|refine Y ?_ ?_<;>intro _
   refine Go.app (k:=0) (ys:=[]++old.map encV) (junk:=j1) (zs:=List.replicate n [Ce.int .i64 0,.int .i64 0,.str []]) rfl rfl rfl (zij (k:=1) rfl) rfl lens hj1 hrl gq λv2 j2 hj2=>?_;repeat' first|refine X ?_|exact yaF|refine Y ?_ ?_<;>intro _
   apply Go.lp;repeat' first|refine X ?_|exact yaF|refine Y ?_ ?_<;>intro _
   refine .ret rfl (wgt ?_ rfl);simp only[zaz,zbw n h1,wb2,List.map_append,List.nil_append,jgt]
  ·have hw0:=jma h2;repeat' first|refine X ?_|((first|apply yG|apply yH|apply yI);exact rfl;(first|exact zw rfl rfl hmk))|exact yaF|refine Y ?_ ?_<;>intro _
   apply Go.loop;repeat' first|refine X ?_|((first|apply yG|apply yH|apply yI);exact rfl;(first|exact zw rfl rfl hmk))|exact yaF|refine Y ?_ ?_<;>intro _
   refine Go.app (k:=0) (ys:=[]) (junk:=[]) (zs:=old.map encV) rfl rfl rfl rfl rfl (λe he=>by simp at he) Jk.nil lens gq λv1 j1 hj1=>?_;repeat' first|refine X ?_|exact yaF|refine Y ?_ ?_<;>intro _
   apply Go.lp;repeat' first|refine X ?_|((first|apply yG|apply yH|apply yI);exact rfl;(first|exact zw rfl rfl hmk))|exact yaF|refine Y ?_ ?_<;>intro _
   refine Go.app (k:=0) (ys:=[]++old.map encV) (junk:=j1) (zs:=now.map encV) rfl rfl rfl rfl rfl lens hj1 lens gq λv2 j2 hj2=>?_;repeat' first|refine X ?_|exact yaF|refine Y ?_ ?_<;>intro _
   apply Go.lp;repeat' first|refine X ?_|exact yaF|refine Y ?_ ?_<;>intro _
   refine .ret rfl (wgt ?_ rfl);simp only[zaz,zbw n h1,zbw n h2,List.map_append,List.nil_append]
theorem zjk{fr:Fr}{s bytes:Nat}{q:Int}{x y:Opd}(hx:x.ev fr=some (.c (.int .i64 q)))(hy:y.ev fr=some (.c (.int .i64 q)))(hq:q=(n:Int))(hb:bytes*n<=140737488355328):
 aop (.mkslice s bytes z x y) fr (E G l)=some (.c (.sl (G.next+l.length) 0 0 n n),E G (l++[(0,List.replicate n z)])):=by
 subst hq;exact zw hx hy hb
variable {N:Nat}{old:List Val}
theorem wkf(hz:z=encV z6)(ho:old=[]\/old.length=N):zj (List.replicate (2*N) z) 0 (old.map encV)=(half N old).map encV++List.replicate N z:=by
 subst hz;rw[zj,List.take_zero,ybs,ybo,yae,List.drop_replicate];by_cases h:old=[]
 ·subst h;rw[wb2,jij,List.map_replicate,List.map_nil,ybs,List.replicate_append_replicate,List.length_nil]
  congr 1
  omega
 ·rcases ho with ho|ho
  ·exact absurd ho h
  ·rw[zbw N h,ho]
   congr 2
   omega
theorem jbg(ho:old=[]\/old.length=N):(half N old).length=N:=by
 rcases ho with ho|ho
 ·subst ho;simp[wb2,jij]
 ·by_cases h:old=[]
  ·subst h;simp[wb2,jij]
  ·rw[zbw N h,ho]
theorem jjk{now:List Val}(hz:z=encV z6)(ho:old=[]\/old.length=N)(hw:now=[]\/now.length=N):zj ((half N old).map encV++List.replicate N z) (0+N) (now.map encV)=(zaz N old now).map encV:=by
 subst hz;have hl:((half N old).map encV).length=N:=by rw[yae,jbg ho]
 rw[zj,ybo,List.take_left' hl,zaz,yaqq,yae,ybq]
 congr 1
 rw[List.drop_append,yac O,hl,ybs,List.drop_replicate];by_cases h:now=[]
 ·subst h;rw[wb2,jij,List.map_replicate,List.map_nil,ybs,List.length_nil]
  congr 1
  omega
 ·rcases hw with hw|hw
  ·exact absurd hw h
  ·rw[zbw N h,hw,show N-(N+N-N)=0 by omega];simp
theorem wjk(t:zd)(old now:List Val)(hc:t.cols.length<=8)(ho:old=[]\/old.length=t.cols.length)(hw:now=[]\/now.length=t.cols.length):Pure Tryz.prog 261 [.agg (ja t),.c (.fz (old.map encV)),.c (.fz (now.map encV))] (.c (.fz ((zaz t.cols.length old now).map encV))):=by
 refine yaq [3] wh4 λG=>?_;generalize hN:t.cols.length=N at*;have hq:IntKind.i64.wrap (2*(t.cols.length:Int))=((2*N:Nat):Int):=by rw[jnx O,hN];omega
 have hmk:32*(2*N)<=140737488355328:=O;have hrl:∀e∈List.replicate (2*N) [Ce.int .i64 0,.int .i64 0,.str []],e.length=3:=λe he=>by rw[ybj he];rfl
 have hrl2:∀e∈(half N old).map encV++List.replicate N [Ce.int .i64 0,.int .i64 0,.str []],e.length=3:=λe he=>(List.mem_append.1 he).elim (lens e) λh=>by rw[ybj h];rfl
 have hlo:(old.map encV).length<=2*N:=by
  rw[yae];rcases ho with rfl|ho
  ·simp
  ·omega
 have hlw:(now.map encV).length<=2*N-N:=by
  rw[yae];rcases hw with rfl|hw
  ·simp
  ·omega
 have e1:=wkf (z:=[Ce.int .i64 0,.int .i64 0,.str []]) rfl ho;have e2:=jjk (z:=[Ce.int .i64 0,.int .i64 0,.str []]) rfl ho hw;have hl1:((half N old).map encV++List.replicate N [Ce.int .i64 0,.int .i64 0,.str []]).length=2*N:=by rw[yba,yae,jbg ho,ybn];omega
 repeat' first|refine X ?_|((first|apply yG|apply yH|apply yI);exact rfl;(first|exact zjk rfl rfl hq hmk))|exact yaF|refine Y ?_ ?_<;>intro _
 refine Go.op rfl (zkr (k:=0) (zs:=old.map encV) rfl rfl rfl rfl gx hrl lens hlo) ?_;rw[show(([]++[(0,List.replicate (2*N) [Ce.int .i64 0,.int .i64 0,.str []])]:List (Nat×List (List Ce))).set 0 (0,zj (List.replicate (2*N) [Ce.int .i64 0,.int .i64 0,.str []]) 0 (old.map encV)))=[(0,(half N old).map encV++List.replicate N [Ce.int .i64 0,.int .i64 0,.str []])] by rw[<-e1];rfl];have hNi:(t.cols.length:Int)=(N:Int):=O;repeat' first|refine X ?_|((first|apply yG|apply yH|apply yI);exact rfl;(first|exact wcu (l:=N) (h:=2*N) (m:=2*N) rfl rfl rfl rfl (jfu hNi) rfl rfl (zlj (k:=0) rfl) hrl2 O (yai _) (yai _)))|exact yaF|refine Y ?_ ?_<;>intro _
 refine Go.op rfl (zkr (k:=0) (i:=0+N) (m:=2*N-N) (zs:=now.map encV) rfl rfl rfl rfl (by rw[hl1];omega) hrl2 lens hlw) ?_;repeat' first|refine X ?_|exact yaF|refine Y ?_ ?_<;>intro _
 have hlen:((zaz N old now).map encV).length=2*N:=by rw[yae,zaz,yba,jbg ho,jbg hw];omega
 refine .ret (v:=.c (.sl (G.next+0) 0 0 (2*N) (2*N))) rfl ?_;have hv:Ce.sl (G.next+0) 0 0 (2*N) (2*N)=vec (G.next+0) 0 ((zaz N old now).map encV) []:=by rw[vec,hlen];rfl
 rw[hv];refine wgt rfl ?_;rw[ybg,<-e2]
 rfl
def za8(p:we->Bool):List we->Int->List Int->List Int
 |[],_,acc=>acc
 |x::l,i,acc=>za8 p l (i+1) (if p x then acc++[i]else acc)
def jat(t:zd)(ev:Int)(vals:List Val)(x:we):Bool:=x.table==t.name&&(x.event==ev&&((x.when_.length:Int)==0||jcb x.when_ vals==1))
def jah(t:zd)(l:List we)(ev:Int)(old now:List Val):List Int:=za8 (jat t ev (zaz t.cols.length old now)) l 0 []
theorem wij(s:List zd)(l:List we)(n:Int)(m:Nat)(ev:Int)(old now:List Val)(hn:n=(m:Int))(hm:m<s.length)(hc:s[m].cols.length<=8)(hx:l.length<=1048576)(hb:∀x∈l,x.when_.length<=34359738368)(ho:old.length<=8)(hw:now.length<=8)(G:wa):
 Ok Tryz.prog 190 [.c (.fz (s.map ja)),.c (.fz (l.map wc)),.c (.int .i64 n),.c (.int .i64 ev),.c (.fz (old.map encV)),.c (.fz (now.map encV))] G (NewV G (.c (.fz ((jah s[m] l ev old now).map encI)))):=by
 refine Ok.run mixed zf3 gz λhS hA=>?_;clear hS hA;have cs:=jkf s[m].cols.length old now hc ho hw;have hbl:(zaz s[m].cols.length old now).length<=34359738368:=by
  have:∀q:List Val,q.length<=8->(half s[m].cols.length q).length<=8:=λq h=>by
   rw[half];split
   ·rw[jij,ybn];exact hc
   ·exact h
  have h1:=this old ho;have h2:=this now hw;rw[zaz,yba];omega
 rw[jah];generalize zaz s[m].cols.length old now=vals at cs hbl⊢;repeat' first|refine X ?_|((first|apply yG|apply yH|apply yI);exact rfl;(first|exact yax ja hn hm))|refine yaC (cs) ?_|exact yaF|refine Y ?_ ?_<;>intro _
 refine Go.keep [0,2,3,13,14,27,28,29] (Go.loops (I:=λq fr V=>∃(i:Nat) (k:Int) (ids:List Int) (v:Nat) (junk:List (List Ce)),q=l.length-i/\i<=l.length/\k=i/\Jk 1 junk/\(ids.length<=i/\za8 (jat s[m] ev vals) l 0 []=za8 (jat s[m] ev vals) (l.drop i) k ids)/\
  fr=[(0,.c (.fz (s.map ja))),(2,.c (.int .i64 n)),(3,.c (.int .i64 ev)),(13,.c (vec (G.next+0) v (ids.map encI) junk)),(14,.c (.fz (vals.map encV))),(27,.c (.fz (l.map wc))),(28,.c (.int .i64 (l.length:Int))),(29,.c (.int .i64 k))]/\V=E G [(v,ids.map encI++junk)]) ?_ _ _ _ ⟨0,_,[],0,[],rfl,yad _,rfl,Jk.nil,⟨yad _,rfl⟩,rfl,rfl⟩)
 rintro q fr V ⟨i,k,ids,v,junk,rfl,hi,hk,hj,⟨hil,hs⟩,rfl,rfl⟩ hrec;clear cs;by_cases hlt:i<l.length
 ·have hwb:=hb _ (yaa hlt);rw[yab hlt,za8]at hs;have hkk:IntKind.i64.wrap (k+1)=k+1:=jg O O;have hbd:((ids.map encI).length+1)*8<=140737488355328:=by rw[yae];omega
  have hz1:∀e∈ids.map encI,e.length=1:=λe he=>(jas e he).1;have e1:ids.map encI++[encI k]=(ids++[k]).map encI:=gx;have c1:=wib l[i].when_ vals hwb hbl
  cases hf:jat s[m] ev vals l[i]
  ·rw[hf,if_neg yah]at hs;simp only[jat]at hf;repeat' first|refine X ?_|((first|apply yG|apply yH|apply yI);exact rfl;(first|exact yax wc hk hlt|exact yax ja hn hm))|(apply Go.app1;exact rfl;exact rfl;exact rfl;exact rfl;exact rfl;exact hz1;exact hj;exact rfl;exact hbd;intro v' junk' hj')|refine yaC (c1) ?_|exact yaF|refine Y ?_ ?_<;>intro _
   all_goals first
    |exact Go.keep [0,2,3,13,14,27,28,29] (hrec _ _ _ O ⟨i+1,_,ids,v,junk,rfl,hlt,wb hk O,hj,⟨O,by rw[hkk];exact hs⟩,rfl,rfl⟩)
    |(exfalso;clear hrec hs;simp_all;done)
  ·rw[hf,if_pos rfl]at hs;simp only[jat]at hf;repeat' first|refine X ?_|((first|apply yG|apply yH|apply yI);exact rfl;(first|exact yax wc hk hlt|exact yax ja hn hm))|(apply Go.app1;exact rfl;exact rfl;exact rfl;exact rfl;exact rfl;exact hz1;exact hj;exact rfl;exact hbd;intro v' junk' hj')|refine yaC (c1) ?_|exact yaF|refine Y ?_ ?_<;>intro _
   all_goals first
    |(refine Go.keep [0,2,3,13,14,27,28,29] (hrec _ _ _ O ⟨i+1,_,ids++[k],v',junk',rfl,hlt,wb hk O,hj',⟨by simp;omega,by rw[hkk];exact hs⟩, ?_, ?_⟩)<;>(rw[<-e1];rfl))
    |(exfalso;clear hrec hs;simp_all;done)
 ·repeat' first|refine X ?_|exact yaF|refine Y ?_ ?_<;>intro _
  refine .ret rfl ?_;rw[yac O,za8]at hs;rw[hs];exact zcq jas hj
theorem jed:∀{l pre:List zd},z7 pre l=true->(∀t∈l,∀u∈pre,u.name≠t.name)/\∀i j (hi:i<l.length) (hj:j<l.length),l[i].name=l[j].name->i=j
 |[],_,_=>⟨λt ht=>by simp at ht,λi j hi=>by simp at hi⟩
 |t::r,pre,h=>by
  simp only[z7,Bool.and_eq_true,Bool.not_eq_true',List.any_eq_false,beq_iff_eq]at h;obtain⟨⟨_,h1⟩,h2⟩:=h;obtain⟨h3,h4⟩:=jed h2;refine⟨λu hu w hw=>?_,λi j hi hj e=>?_⟩
  ·rcases List.mem_cons.1 hu with rfl|hu
   ·exact h1 w hw
   ·exact h3 u hu w (by simp[hw])
  ·cases i with
   |zero=>
    cases j with
    |zero=>rfl
    |succ j=>exact absurd e (h3 _ (List.getElem_mem (by simpa using hj)) t gx)
   |succ i=>
    cases j with
    |zero=>exact absurd e.symm (h3 _ (List.getElem_mem (by simpa using hi)) t gx)
    |succ j=>rw[h4 i j (by simpa using hi) (by simpa using hj) e]
theorem wm8(h:js s=true){m:Nat}(hm:m<s.length){nm:List UInt8}(e:nm=s[m].name):jjc s nm=some s[m]:=by
 subst e;rcases jb6 (p:=λu:zd=>u.name==s[m].name) (l:=s) (i:=0) (yaxq _)with hi|⟨n,hn,hi,hp⟩
 ·exfalso;have:=wb3 (p:=λu:zd=>u.name==s[m].name) (l:=s);rw[hi]at this;have h2:(s.any λu=>u.name==s[m].name)=true:=List.any_eq_true.2 ⟨s[m],yaa hm,gx⟩;rw[h2]at this;exact absurd this gb
 ·rw[wa5 (by rw[hi];omega) hn];have:=(jed (wcj.1 h).2.1).2 n m hn hm (eq_of_beq hp);subst this
  rfl
theorem jdc{l:List Val}(h:∀v∈l,ju v=true):∀v∈half n l,ju v=true:=by
 intro v hv;rw[half]at hv;split at hv
 ·rw[ybj hv];rfl
 ·exact h v hv
theorem zew(s:List zd)(l:List we)(n:Int)(m:Nat)(ev:Int)(old now:List Val)(hn:n=(m:Int))(hm:m<s.length)(hc:s[m].cols.length<=8)(hx:l.length<=1048576)(ho:old=[]\/old.length=s[m].cols.length)(hw:now=[]\/now.length=s[m].cols.length)
 (ho2:∀v∈old,ju v=true) (hw2:∀v∈now,ju v=true) (hT:∀x∈l,x.table=s[m].name->wbt x.when_ (2*s[m].cols.length)=true) (G:wa):
 Ok Tryz.prog 260 [.c (.fz (s.map ja)),.c (.fz (l.map wc)),.c (.int .i64 n),.c (.int .i64 ev),.c (.fz (old.map encV)),.c (.fz (now.map encV))] G (NewV G (.c (.fz ((jah s[m] l ev old now).map encI)))):=by
 refine Ok.run mixed jen gz λhS hA=>?_;clear hS hA;have cs:=wjk s[m] old now hc ho hw;have hbl:(zaz s[m].cols.length old now).length=2*s[m].cols.length:=by rw[zaz,yba,jbg ho,jbg hw];omega
 have hba:jt (zaz s[m].cols.length old now) 16=true:=by
  simp only[jt,Bool.and_eq_true,decide_eq_true_eq,List.all_eq_true];refine⟨O,λv hv=>?_⟩;rcases List.mem_append.1 hv with hv|hv
  ·exact jdc ho2 v hv
  ·exact jdc hw2 v hv
 rw[jah];generalize zaz s[m].cols.length old now=vals at cs hbl hba⊢;repeat' first|refine X ?_|exact yaF|refine Y ?_ ?_<;>intro _
 refine Go.keep [0,1,2,3,4,5,13,14] (Go.loops (I:=λq fr V=>∃(i:Nat) (k:Int) (ids:List Int) (v:Nat) (junk:List (List Ce)),q=l.length-i/\i<=l.length/\k=i/\Jk 1 junk/\(ids.length<=i/\za8 (jat s[m] ev vals) l 0 []=za8 (jat s[m] ev vals) (l.drop i) k ids)/\
  fr=[(0,.c (.fz (s.map ja))),(1,.c (.fz (l.map wc))),(2,.c (.int .i64 n)),(3,.c (.int .i64 ev)),(4,.c (.fz (old.map encV))),(5,.c (.fz (now.map encV))),(13,.c (vec (G.next+0) v (ids.map encI) junk)),(14,.c (.int .i64 k))]/\V=E G [(v,ids.map encI++junk)]) ?_ _ _ _ ⟨0,_,[],0,[],rfl,yad _,rfl,Jk.nil,⟨yad _,rfl⟩,rfl,rfl⟩)
 rintro q fr V ⟨i,k,ids,v,junk,rfl,hi,hk,hj,⟨hil,hs⟩,rfl,rfl⟩ hrec;by_cases hlt:i<l.length
 ·have hTi:=hT _ (yaa hlt);rw[yab hlt,za8]at hs;have hkk:IntKind.i64.wrap (k+1)=k+1:=jg O O;have hbd:((ids.map encI).length+1)*8<=140737488355328:=by rw[yae];omega
  have hz1:∀e∈ids.map encI,e.length=1:=λe he=>(jas e he).1;have e1:ids.map encI++[encI k]=(ids++[k]).map encI:=gx;have fin0:jat s[m] ev vals l[i]=false->∀fr V,fr=[(0,AV.c (.fz (s.map ja))),(1,.c (.fz (l.map wc))),(2,.c (.int .i64 n)),(3,.c (.int .i64 ev)),(4,.c (.fz (old.map encV))),(5,.c (.fz (now.map encV))),(13,.c (vec (G.next+0) v (ids.map encI) junk)),(14,.c (.int .i64 (IntKind.i64.wrap (k+1))))]->V=E G [(v,ids.map encI++junk)]->_:=λhf fr V a b=>by
   rw[hf,if_neg yah]at hs;exact hrec (l.length-(i+1)) fr V O ⟨i+1,_,ids,v,junk,rfl,hlt,wb hk O,hj,⟨O,by rw[hkk];exact hs⟩,a,b⟩
  have fin1:jat s[m] ev vals l[i]=true->∀(v':Nat) (junk':List (List Ce)),Jk 1 junk'->∀fr V,fr=[(0,AV.c (.fz (s.map ja))),(1,.c (.fz (l.map wc))),(2,.c (.int .i64 n)),(3,.c (.int .i64 ev)),(4,.c (.fz (old.map encV))),(5,.c (.fz (now.map encV))),(13,.c (vec (G.next+0) v' ((ids++[k]).map encI) junk')),(14,.c (.int .i64 (IntKind.i64.wrap (k+1))))]->V=E G [(v',(ids++[k]).map encI++junk')]->_:=λhf v' junk' hj' fr V a b=>by
   rw[hf,if_pos rfl]at hs;exact hrec (l.length-(i+1)) fr V O ⟨i+1,_,ids++[k],v',junk',rfl,hlt,wb hk O,hj',⟨by simp;omega,by rw[hkk];exact hs⟩,a,b⟩
  clear hrec hs;by_cases h1:l[i].table=s[m].name
  ·have hb1:(l[i].table==s[m].name)=true:=by rw[h1];exact beq_self_eq_true _
   by_cases h0:(l[i].when_.length:Int)=0
   ·repeat' first|refine X ?_|((first|apply yG|apply yH|apply yI);exact rfl;(first|exact yax wc hk hlt|exact yax ja hn hm))|(apply Go.app1;exact rfl;exact rfl;exact rfl;exact rfl;exact rfl;exact hz1;exact hj;exact rfl;exact hbd;intro v' junk' hj')|exact yaF|refine Y ?_ ?_<;>intro _
    all_goals first
     |(refine Go.keep [0,1,2,3,4,5,13,14] (fin1 ?_ v' junk' hj' _ _ ?_ ?_)<;>first|(rw[<-e1];rfl)|(simp_all[jat];done))
     |(refine Go.keep [0,1,2,3,4,5,13,14] (fin0 ?_ _ _ rfl rfl);simp_all[jat];done)
     |(exfalso;simp_all;done)
   ·have hex:war l[i].when_ vals.length=true:=by
     rw[hbl];have:=wj9 (hTi h1) O;exact this
    have c1:=jer l[i].when_ vals hba hex;have hTT:jcb l[i].when_ vals=wc1 l[i].when_ vals:=by rw[jcb,wdj,hba,hex];rfl
    repeat' first|refine X ?_|((first|apply yG|apply yH|apply yI);exact rfl;(first|exact yax wc hk hlt|exact yax ja hn hm))|(apply Go.app1;exact rfl;exact rfl;exact rfl;exact rfl;exact rfl;exact hz1;exact hj;exact rfl;exact hbd;intro v' junk' hj')|refine yaC (cs) ?_|refine yaC (c1) ?_|exact yaF|refine Y ?_ ?_<;>intro _
    all_goals first
     |(refine Go.keep [0,1,2,3,4,5,13,14] (fin1 ?_ v' junk' hj' _ _ ?_ ?_)<;>first|(rw[<-e1];rfl)|(simp_all[jat];done))
     |(refine Go.keep [0,1,2,3,4,5,13,14] (fin0 ?_ _ _ rfl rfl);simp_all[jat];done)
     |(exfalso;simp_all;done)
  ·have hb1:(l[i].table==s[m].name)=false:=beq_eq_false_iff_ne.2 h1;repeat' first|refine X ?_|((first|apply yG|apply yH|apply yI);exact rfl;(first|exact yax wc hk hlt|exact yax ja hn hm))|exact yaF|refine Y ?_ ?_<;>intro _
   all_goals first
    |(refine Go.keep [0,1,2,3,4,5,13,14] (fin0 ?_ _ _ rfl rfl);simp_all[jat];done)
    |(exfalso;simp_all;done)
 ·repeat' first|refine X ?_|exact yaF|refine Y ?_ ?_<;>intro _
  refine .ret rfl ?_;rw[yac O,za8]at hs;rw[hs];exact zcq jas hj
theorem jbe{l:List we}(h:wl s l=true):js s=true/\l.length<=6/\∀x∈l,wbv s x=true:=by
 simp only[wl,Bool.and_eq_true,decide_eq_true_eq,Bool.not_eq_true',List.any_eq_false,Bool.not_eq_true,Bool.not_eq_false']at h;exact⟨h.1,O,λx hx=>by simpa using h.2.2 x hx⟩
end Go.Proofs.YtedaadaaibofaaaGreat.Am
