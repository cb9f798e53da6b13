/- Joined texts: Am18, Am19, Am20, Am21, Am22, Am23, Am24, Am25, Am26, Am28, Am29, Am31, Am32, Am30, Am27. -/
import Derived.OpenShut
import Derived.Below
import Derived.Carry
import Derived.SizedLaws
import Derived.ChangeArms
import Derived.DataReads
import Derived.Test.YtedaadaaibofaaaGreatZ1
set_option linter.unusedVariables false
set_option linter.unusedSimpArgs false
namespace Go.Proofs.YtedaadaaibofaaaGreat.Am
open Go.RowKit

variable {fr fr':Fr}
theorem Opd.ev_congr{x:Opd}(h:∀t∈x.tmps,look fr t=look fr' t):x.ev fr=x.ev fr':=by
 cases x with
 |t i=>exact h i (by simp[Opd.tmps])
 |_=>rfl
theorem wcj{x:Option Opd}(h:∀t∈ol x,look fr t=look fr' t):evo fr x=evo fr' x:=by
 cases x with
 |none=>rfl
 |some x=>simp only[evo];rw[Opd.ev_congr h]
theorem zev{fr fr':Fr}:∀{ps:List (Nat×Nat×Opd)} {z:List Ce},(∀t∈ps.flatMap (λp=>p.2.2.tmps),look fr t=look fr' t)->wgx fr z ps=wgx fr' z ps
 |[],z,h=>rfl
 |(off,s,x)::r,z,h=>by
  have e:=Opd.ev_congr (fr:=fr) (fr':=fr') (x:=x) (λt ht=>h t (by simp[ht]));simp only[wgx,e];split
  ·split
   ·exact zev λt ht=>h t (by simp only[List.flatMap_cons,List.mem_append];exact .inr ht)
   ·rfl
  ·rfl
theorem jev{fr fr':Fr}{s:Nat}:∀{ps:List (Nat×Opd)} {z:List (List Ce)},(∀t∈ps.flatMap (λp=>p.2.tmps),look fr t=look fr' t)->wf9 fr s z ps=wf9 fr' s z ps
 |[],z,h=>rfl
 |(i,x)::r,z,h=>by
  have e:=Opd.ev_congr (fr:=fr) (fr':=fr') (x:=x) (λt ht=>h t (by simp[ht]));simp only[wf9,e];split
  ·split
   ·exact jev λt ht=>h t (by simp only[List.flatMap_cons,List.mem_append];exact .inr ht)
   ·rfl
  ·rfl
theorem wbk{fr fr':Fr}:∀{xs:List Opd},(∀t∈xs.flatMap Opd.tmps,look fr t=look fr' t)->evs fr xs=evs fr' xs
 |[],h=>rfl
 |x::r,h=>by
  have e:=Opd.ev_congr (fr:=fr) (fr':=fr') (x:=x) (λt ht=>h t (by simp[ht]));have e':evs fr r=evs fr' r:=wbk λt ht=>h t (by simp only[List.flatMap_cons,List.mem_append];exact .inr ht);simp only[evs,e,e']
theorem wev{fr fr':Fr}:∀{xs:List Opd},(∀t∈xs.flatMap Opd.tmps,look fr t=look fr' t)->evc fr xs=evc fr' xs
 |[],h=>rfl
 |x::r,h=>by
  have e:=Opd.ev_congr (fr:=fr) (fr':=fr') (x:=x) (λt ht=>h t (by simp[ht]));have e':evc fr r=evc fr' r:=wev λt ht=>h t (by simp only[List.flatMap_cons,List.mem_append];exact .inr ht);simp only[evc,e,e']
theorem wam{G:jb}{o:AOp}(h:∀t∈o.tmps,look fr t=look fr' t):aop o fr G=aop o fr' G:=by
 cases o<;>simp only[AOp.tmps,List.mem_append]at h
 case alloc=>rfl
 case stuck=>rfl
 case build z ps=>simp only[aop,zev h]
 case mksl fz s n z ps=>simp only[aop,jev h]
 case mkfn f p c=>simp only[aop,wev (λt ht=>h t (.inl ht)),wev (λt ht=>h t (.inr ht))]
 case slice s x a b c=>
  simp only[aop,Opd.ev_congr (λt ht=>h t (.inl (.inl (.inl ht)))),wcj (λt ht=>h t (.inl (.inl (.inr ht)))),wcj (λt ht=>h t (.inl (.inr ht))),wcj (λt ht=>h t (.inr ht))]
 case strsl x a b=>
  simp only[aop,Opd.ev_congr (λt ht=>h t (.inl (.inl ht))),wcj (λt ht=>h t (.inl (.inr ht))),wcj (λt ht=>h t (.inr ht))]
 case pick a b c=>
  simp only[aop,Opd.ev_congr (λt ht=>h t (.inl (.inl ht))),Opd.ev_congr (λt ht=>h t (.inl (.inr ht))),Opd.ev_congr (λt ht=>h t (.inr ht))]
 all_goals first
  |(simp only[aop,Opd.ev_congr h];done)
  |(simp only[aop,Opd.ev_congr (λt ht=>h t (.inl ht)),Opd.ev_congr (λt ht=>h t (.inr ht))];done)
theorem jq{g:Option (Nat×Bool)}(h:∀t b,g=some (t,b)->look fr t=look fr' t):wants fr g=wants fr' g:=by
 cases g with
 |none=>rfl
 |some x=>simp only[wants,h x.1 x.2 rfl]

theorem zm{α:Type}:∀{l:List α} {p i:Nat} {x:α},(i,x)∈jr p l↔∃k,∃h:k<l.length,i=p+k/\x=l[k]
 |[],p,i,x=>by simp[jr]
 |y::l,p,i,x=>by
  simp only[jr,List.mem_cons,Prod.mk.injEq,zm];constructor
  ·rintro(⟨rfl,rfl⟩|⟨k,h,rfl,rfl⟩)
   ·exact⟨0,gx,gx,gx⟩
   ·exact⟨k+1,by simp;omega,O,gx⟩
  ·rintro⟨k,h,rfl,rfl⟩
   cases k with
   |zero=>exact .inl ⟨gx,gx⟩
   |succ k=>exact .inr ⟨k,by simpa using h,O,gx⟩

def QF(P:Program)(G:jb)(F:Fr)(x:jd):Prop:=
 ∃v,(∀d,x.dst=some d->look F d=some v)/\
  ((wants F x.guard=some true/\((∃o,x.op=.op o/\aop o F G=some (v,G))\/
    ∃f args n pre cap vs,x.op=.call f args/\f.ev F=some (.c (.fn n pre cap))/\evs F args=some vs/\Ok P n (pre.map .c++vs++cap.map .c) G (λr' G'=>r'=v/\G'=G)))\/
   (wants F x.guard=some false/\v=.tup []))
def wg1:List jd->Prop
 |[]=>True
 |o::r=>(∀y∈o::r,∀t∈o.looks,y.dst≠some t)/\(∀d,o.dst=some d->∀y∈r,y.dst≠some d)/\wg1 r
theorem zaw{d:Option Nat}{v:AV}{t:Nat}(h:d≠some t):look (putA fr d v) t=look fr t:=by
 cases d with
 |none=>rfl
 |some d=>simp only[putA,look];rw[if_neg (λe=>h (by rw[e]))]
theorem Qs.facts{P:Program}{G:jb}{seg:List jd}{F:Fr}(h:Qs P G seg fr F):wg1 seg->(∀t,(∀y∈seg,y.dst≠some t)->look F t=look fr t)/\∀x∈seg,QF P G F x:=by
 have key:∀{d:Option Nat} {g:Option (Nat×Bool)} {op:AO} {rest:List jd} {fr F:Fr} {v:AV},wg1 (⟨d,op,g⟩::rest)->
  ((∀t,(∀y∈rest,y.dst≠some t)->look F t=look (putA fr d v) t)/\∀x∈rest,QF P G F x)->
  (∀t,(∀y∈(⟨d,op,g⟩::rest:List jd),y.dst≠some t)->look F t=look fr t)/\(∀d',d=some d'->look F d'=some v)/\(∀t∈(⟨d,op,g⟩:jd).looks,look fr t=look F t):=by
  intro d g op rest fr F v hl ⟨h1,h2⟩;obtain⟨l1,l2,l3⟩:=hl;have a:∀t,(∀y∈(⟨d,op,g⟩::rest:List jd),y.dst≠some t)->look F t=look fr t:=by
   intro t ht;rw[h1 t λy hy=>ht y (List.mem_cons_of_mem _ hy)];exact zaw (ht ⟨d,op,g⟩ gx)
  refine⟨a,λd' hd=>?_,λt ht=>(a t λy hy=>l1 y hy t ht).symm⟩;subst hd;rw[h1 d' λy hy=>l2 d' rfl y hy];simp[putA,look]
 have gd:∀{d:Option Nat} {g:Option (Nat×Bool)} {op:AO} {fr F:Fr},(∀t∈(⟨d,op,g⟩:jd).looks,look fr t=look F t)->wants fr g=wants F g:=by
  intro d g op fr F hh;refine jq λt b e=>hh t ?_;subst e;simp[jd.looks]
 induction h with
 |nil=>exactλ_=>⟨λ_ _=>rfl,λx hx=>by simp at hx⟩
 |same he _ ih=>exactλhl=>⟨λt ht=>((ih hl).1 t ht).trans (he t),(ih hl).2⟩
 |@op d o g rest fr F v hw ha _ ih=>
  intro hl;have:=ih hl.2.2;obtain⟨a,b,c⟩:=key hl this;refine⟨a,λx hx=>?_⟩;rcases List.mem_cons.1 hx with rfl|hx
  ·exact⟨v,b,.inl ⟨by rw[<-gd c];exact hw,.inl ⟨o,rfl,by rw[<-wam λt ht=>c t (by simp[jd.looks,ht])];exact ha⟩⟩⟩
  ·exact this.2 x hx
 |@no d o g rest fr F hw _ ih=>
  intro hl;have:=ih hl.2.2;obtain⟨a,b,c⟩:=key hl this;refine⟨a,λx hx=>?_⟩;rcases List.mem_cons.1 hx with rfl|hx
  ·exact⟨.tup [],b,.inr ⟨by rw[<-gd c];exact hw,rfl⟩⟩
  ·exact this.2 x hx
 |@call d f args g rest fr F n pre cap vs r hw hf hargs hok _ ih=>
  intro hl;have:=ih hl.2.2;obtain⟨a,b,c⟩:=key hl this;refine⟨a,λx hx=>?_⟩;rcases List.mem_cons.1 hx with rfl|hx
  ·exact⟨r,b,.inl ⟨by rw[<-gd c];exact hw,.inr ⟨f,args,n,pre,cap,vs,rfl,by rw[<-Opd.ev_congr λt ht=>c t (by simp[jd.looks,ht])];exact hf,by rw[<-wbk λt ht=>c t (by simp only[jd.looks,List.mem_append];exact .inl (.inr ht))];exact hargs,hok⟩⟩⟩
  ·exact this.2 x hx

theorem zc7{j:Nat}:∀{l:List Nat},(zg0 l).testBit j=true↔j∈l
 |[]=>by simp[zg0]
 |x::l=>by
  have:=zc7 (j:=j) (l:=l);simp only[zg0,List.foldr_cons,Nat.testBit_or,Nat.one_shiftLeft,Nat.testBit_two_pow,Bool.or_eq_true,decide_eq_true_eq,List.mem_cons]at this⊢;rw[this];exact or_congr ⟨Eq.symm,Eq.symm⟩ Iff.rfl
theorem jb7{ms:List Nat}{D:Nat->Prop}(hD:∀i,D i->∀j,(ms.getD i 0).testBit j=true->D j):∀(k m:Nat),(∀j,m.testBit j=true->D j)->∀j,(zbx ms k m).testBit j=true->D j
 |0,m,h,j,hj=>h j hj
 |k+1,m,h,j,hj=>by
  refine jb7 hD k _ (λi hi=>?_) j hj;split at hi
  ·rename_i hk;rw[Nat.testBit_or,Bool.or_eq_true]at hi;rcases hi with hi|hi
   ·exact h i hi
   ·exact hD k (h k hk) i hi
  ·exact h i hi
variable {ms:List Nat}
theorem zda{q:Nat}(hc:zgb (wbz ms) q=true){D:Nat->Prop}(hD:∀i,D i->∀j,(ms.getD i 0).testBit j=true->D j){i:Nat}(hi:q<=i)(hl:i<ms.length)(h:∀j,(ms.getD i 0).testBit j=true->D j){j:Nat}(hj:j<q):D j:=by
 unfold zgb at hc;rw[List.all_eq_true]at hc;have hm:zbx ms i (ms.getD i 0)∈(wbz ms).drop q:=by
  rw[List.mem_iff_getElem];refine⟨i-q,by simp[wbz];omega, ?_⟩;simp only[wbz,List.getElem_drop,List.getElem_map,List.getElem_range];rw[show q+(i-q)=i by omega]
 have:=hc _ hm;rw[beq_iff_eq]at this;have hb:(zbx ms i (ms.getD i 0)).testBit j=true:=by
  have e:=congrArg (λn=>n.testBit j) this;simp only[Nat.testBit_and,Nat.testBit_two_pow_sub_one,decide_eq_true hj,Bool.and_true]at e;exact e
 exact jb7 hD i _ h j hb

structure Aft(ops:Array Oper)(ms:List Nat):Prop where
 len:ms.length=ops.size
 bit:∀i o,ops[i]?=some o->∀j,(ms.getD i 0).testBit j=true↔j∈wgz o
 lt:∀i j,(ms.getD i 0).testBit j=true->j<i
def Upto(n p:Nat)(listed:Array Bool):Prop:=listed.size=n/\∀i,i<n->listed[i]?=some (decide (i<p))
def rem(n:Nat)(listed:Array Bool):Nat:=(List.range n).countP λi=> !listed.getD i true

theorem zbl{ops:Array Oper}(hA:Aft ops ms){listed:Array Bool}(hs:listed.size=ops.size){i:Nat}:
 i∈Region.ready .any ops listed↔i<ops.size/\listed[i]?=some false/\∀j,(ms.getD i 0).testBit j=true->listed[j]?=some true:=by
 unfold Region.ready;rw[List.mem_filter,List.mem_range];refine and_congr_right λhi=>?_;obtain⟨o,ho⟩:∃o,ops[i]?=some o:=⟨ops[i],by simp[hi]⟩;have hb:=hA.bit i o ho;have hli:listed[i]?=some (listed[i]'O):=by simp[hs,hi]
 simp only[ho,Option.map_some,Option.getD_some,Bool.and_eq_true,Array.getD_eq_getD_getElem?,hli];have e1:((!listed[i]'O)=true)↔some (listed[i]'O)=some false:=by
  cases listed[i]'O<;>simp
 rw[e1];refine and_congr_right λ_=>?_;rw[Array.all_eq_true'];constructor
 ·intro h j hj;rw[hb]at hj;simp only[wgz,List.mem_map,List.mem_filter,Array.mem_toList_iff]at hj;obtain⟨e,⟨he1,he2⟩,rfl⟩:=hj;have:=h e he1;rw[he2]at this;simp only[Bool.not_true,Bool.false_or]at this
  cases hq:listed[e.on]? with
  |none=>simp[hq]at this
  |some b=>simpa [hq]using this
 ·intro h e he
  cases hbd:Region.binds .any e with
  |false=>simp
  |true=>
   have:listed[e.on]?=some true:=h e.on ((hb _).2 (by simp only[wgz,List.mem_map,List.mem_filter,Array.mem_toList_iff];exact⟨e,⟨he,hbd⟩,rfl⟩));simp[this]

theorem zew{p p':Nat->Bool}{i:Nat}(h:∀j,j≠i->p' j=p j)(h1:p i=true)(h2:p' i=false):∀n,(List.range n).countP p'+(if i<n then 1 else 0)=(List.range n).countP p
 |0=>gx
 |n+1=>by
  have ih:=zew h h1 h2 n;rw[List.range_succ,List.countP_append,List.countP_append];simp only[List.countP_cons,List.countP_nil];by_cases e:n=i
  ·subst e;simp only[h1,h2];simp at ih⊢;omega
  ·rw[h n e];by_cases e2:i<n
   ·simp[e2]at ih⊢;have:i<n+1:=O;simp[this];omega
   ·have:¬i<n+1:=O;simp[e2,this]at ih⊢;omega
variable {listed:Array Bool}
theorem zgd{n i:Nat}(hs:listed.size=n)(hi:listed[i]?=some false):rem n (listed.setIfInBounds i true)+1=rem n listed:=by
 have hlt:i<n:=by
  rw[<-hs];exact(Array.getElem?_eq_some_iff.1 hi).1
 have:=zew (p:=λj=> !listed.getD j true) (p':=λj=> !(listed.setIfInBounds i true).getD j true) (i:=i)
  (λj hj=>by simp[Array.getElem?_setIfInBounds_ne (Ne.symm hj)]) (by simp[hi]) (by simp[hs,hlt]) n
 simpa [rem,hlt]using this
theorem zhs{n i:Nat}(hs:listed.size=n)(hi:listed[i]?=some false):0<rem n listed:=by
 have:=zgd hs hi;omega

section
variable {P:Program}{ops:Array Oper}{ms:List Nat}{Q:Exit->Act->World->Prop}
theorem any_nil(hA:Aft ops ms){listed:Array Bool}(hU:Upto ops.size ops.size listed){a:Act}{w:World}(h:Q .normal a w)(fuel:Nat):wpAny P .any ops Q fuel listed a w:=by
 have hr:Region.ready .any ops listed=[]:=by
  rw[List.eq_nil_iff_forall_not_mem];intro i hi;obtain⟨h1,h2,_⟩:=(zbl hA hU.1).1 hi;have:=hU.2 i h1;rw[h2]at this;simp[h1]at this
 cases fuel with
 |zero=>exact⟨hr,h⟩
 |succ n=>exact⟨λ_=>h,λi hi=>by rw[hr]at hi;simp at hi⟩
theorem Upto.closed(hA:Aft ops ms){p:Nat}{listed:Array Bool}(hU:Upto ops.size p listed)(hp:p<=ops.size):∀i,listed[i]?=some true->∀j,(ms.getD i 0).testBit j=true->listed[j]?=some true:=by
 intro i hi j hj;have hlt:i<ops.size:=by rw[<-hU.1];exact(Array.getElem?_eq_some_iff.1 hi).1
 have h1:=hU.2 i hlt;rw[hi]at h1;simp at h1;have h2:=hA.lt i j hj;rw[hU.2 j O];simp;omega
theorem jda(hA:Aft ops ms){p:Nat}{listed:Array Bool}(hU:Upto ops.size p listed)(hp:p<ops.size)(hcut:p+1<ops.size->zgb (wbz ms) (p+1)=true){fuel:Nat}(hf:rem ops.size listed<=fuel){a:Act}{w:World}
 (h:∀fuel' listed',Upto ops.size (p+1) listed'->rem ops.size listed'<=fuel'->wpOp P ops Q p (wpAny P .any ops Q fuel' listed') a w):wpAny P .any ops Q fuel listed a w:=by
 have hpl:listed[p]?=some false:=by rw[hU.2 p hp];simp
 have hrp:p∈Region.ready .any ops listed:=by
  rw[zbl hA hU.1];refine⟨hp,hpl,λj hj=>?_⟩;have:=hA.lt p j hj;rw[hU.2 j O];simp[this]
 have hpos:=zhs hU.1 hpl
 cases fuel with
 |zero=>omega
 |succ n=>
  refine⟨λe=>by rw[e]at hrp;simp at hrp,λi hi=>?_⟩;obtain⟨h1,h2,h3⟩:=(zbl hA hU.1).1 hi;have hge:p<=i:=by
   rw[hU.2 i h1]at h2;simp at h2;exact h2
  have:i=p:=by
   by_cases e:i=p
   ·exact e
   ·have:=zda (hcut O) (D:=λj=>listed[j]?=some true) (hU.closed hA O) (i:=i) O (by rw[hA.len];exact h1) h3 (j:=p) O;rw[hpl]at this
    cases this
  subst this;have hrem:=zgd hU.1 hpl;refine h n _ ⟨by simp[hU.1],λj hj=>?_⟩ O;by_cases e:i=j
  ·subst e;simp[hU.1,hp]
  ·rw[Array.getElem?_setIfInBounds_ne e,hU.2 j hj]
   congr 1
   simp;omega

theorem jew{g:Nat->Bool}{t:Nat}:∀{F:Fr},look (F.filter λe=>g e.1) t=if g t then look F t else none
 |[]=>by simp[look]
 |(j,x)::r=>by
  simp only[List.filter_cons];have ih:=jew (g:=g) (t:=t) (F:=r);by_cases e:j=t
  ·subst e
   cases hg:g j
   ·simp only[hg,Bool.false_eq_true,if_false]at ih⊢;exact ih
   ·simp[look]
  ·cases hg:g j
   ·simp only[Bool.false_eq_true,if_false,look,if_neg e];exact ih
   ·simp only[if_true,look,if_neg e];exact ih

variable {fz:List Nat}{nt p:Nat}{G:jb}{seg:List jd}{C0:Cx}
open Classical in
theorem wi6{F:Fr}(hA:Aft ops ms)(hq:p+seg.length<=ops.size)
 (hseg:∀k (h:k<seg.length),∃o,ops[p+k]?=some o/\zp P fz nt ops o=some seg[k])
 (hlook:∀k k' (h:k<seg.length) (h':k'<seg.length) t,t∈seg[k].looks->seg[k'].dst=some t->(ms.getD (p+k) 0).testBit (p+k')=true)
 (hcut:p+seg.length<ops.size->zgb (wbz ms) (p+seg.length)=true)
 (hQ:∀x∈seg,QF P G F x)
 (hnext:∀(D:Cx) (a:Act) (listed:Array Bool) (fuel:Nat),Upto ops.size (p+seg.length) listed->rem ops.size listed<=fuel->C0.Le D->FrR D nt F a->Rl D G->wpAny P .any ops Q fuel listed a D.w):
 ∀(fuel:Nat) (listed:Array Bool) (C:Cx) (a:Act),listed.size=ops.size->(∀i,i<p->listed[i]?=some true)->(∀i,p+seg.length<=i->i<ops.size->listed[i]?=some false)->
  (∀i,listed[i]?=some true->∀j,(ms.getD i 0).testBit j=true->listed[j]?=some true)->rem ops.size listed<=fuel->C0.Le C->Rl C G->
  a.defers=[]->a.tmps.size=nt->(∀t x,look F t=some x->(∀k (h:k<seg.length),seg[k].dst=some t->listed[p+k]?=some true)->t<nt/\RpV C x (a.tmps.getD t undef))->
  wpAny P .any ops Q fuel listed a C.w:=by
 intro fuel
 induction fuel with
 |zero=>
  intro listed C a hs hlo hhi hdc hrem le hR hd hn hF;have all:∀i,i<p+seg.length->listed[i]?=some true:=by
   intro i hi;have hlt:i<listed.size:=O
   cases hb:listed[i]'hlt with
   |true=>simp[hlt,hb]
   |false=>
    have:=zhs (n:=ops.size) (i:=i) hs (by simp[hlt,hb]);omega
  refine hnext C a listed 0 ⟨hs,λi hi=>?_⟩ hrem le ⟨hd,hn,λt x hx=>hF t x hx λk h _=>all _ O⟩ hR;by_cases e:i<p+seg.length
  ·rw[all i e];simp[e]
  ·rw[hhi i O hi];simp[e]
 |succ n ih=>
  intro listed C a hs hlo hhi hdc hrem le hR hd hn hF;by_cases hall:∀i,i<p+seg.length->listed[i]?=some true
  ·refine hnext C a listed (n+1) ⟨hs,λi hi=>?_⟩ hrem le ⟨hd,hn,λt x hx=>hF t x hx λk h _=>hall _ O⟩ hR;by_cases e:i<p+seg.length
   ·rw[hall i e];simp[e]
   ·rw[hhi i O hi];simp[e]
  ·have hun:∃i,i<p+seg.length/\listed[i]?=some false:=by
    simp only[not_forall]at hall;obtain⟨i,hi,hne⟩:=hall;refine⟨i,hi, ?_⟩;have hlt:i<listed.size:=O
    cases hb:listed[i]'hlt with
    |true=>exact absurd (by simp[hlt,hb]) hne
    |false=>simp[hlt,hb]
   have hready:Region.ready .any ops listed≠[]:=by
    obtain⟨i,hi,hf⟩:=hun;have:∀m i,i<m->i<p+seg.length->listed[i]?=some false->∃r,r∈Region.ready .any ops listed:=by
     intro m
     induction m with
     |zero=>intro i hi;omega
     |succ m ihm=>
      intro i him hi hf;by_cases hr:∀j,(ms.getD i 0).testBit j=true->listed[j]?=some true
      ·exact⟨i,(zbl hA hs).2 ⟨O,hf,hr⟩⟩
      ·simp only[not_forall]at hr;obtain⟨j,hj,hne⟩:=hr;have hji:=hA.lt i j hj;have hlt:j<listed.size:=O;refine ihm j O O ?_
       cases hb:listed[j]'hlt with
       |true=>exact absurd (by simp[hlt,hb]) hne
       |false=>simp[hlt,hb]
    obtain⟨r,hr⟩:=this (i+1) i O hi hf;intro e;rw[e]at hr;simp at hr
   refine⟨λe=>absurd e hready,λi hi=>?_⟩;obtain⟨h1,h2,h3⟩:=(zbl hA hs).1 hi;have hge:p<=i:=by
    by_cases e:i<p
    ·rw[hlo i e]at h2;cases h2
    ·omega
   have hlt:i<p+seg.length:=by
    by_cases e:i<p+seg.length
    ·exact e
    ·obtain⟨j,hj,hf⟩:=hun;have:=zda (hcut O) (D:=λj=>listed[j]?=some true) hdc (i:=i) O (by rw[hA.len];exact h1) h3 (j:=j) hj;rw[hf]at this
     cases this
   obtain⟨k,rfl⟩:∃k,i=p+k:=⟨i-p,O⟩;have hk:k<seg.length:=O;obtain⟨o,ho,hc⟩:=hseg k hk;obtain⟨v,hv,hstep⟩:=hQ seg[k] (yaa hk)
   let g:Nat->Bool:=λt=>decide (∀k (h:k<seg.length),seg[k].dst=some t->listed[p+k]?=some true)
   let F':Fr:=F.filter λe=>g e.1
   have hlk:∀t,look F' t=if g t then look F t else none:=λt=>jew
   have hF':FrR C nt F' a:=by
    refine⟨hd,hn,λt x hx=>?_⟩;rw[hlk]at hx;split at hx
    ·rename_i hg;exact hF t x hx (of_decide_eq_true hg)
    ·cases hx
   have hsame:∀t∈seg[k].looks,look F t=look F' t:=by
    intro t ht;rw[hlk,if_pos];exact decide_eq_true λk' h' hd'=>h3 _ (hlook k k' hk h' t ht hd')
   have hgd:wants F seg[k].guard=wants F' seg[k].guard:=jq λt b e=>hsame t (by simp[jd.looks,e]);have hafter:∀(D:Cx) (a':Act),Rl D G->C.Le D->FrR D nt (putA F' seg[k].dst v) a'->wpAny P .any ops Q n (listed.setIfInBounds (p+k) true) a' D.w:=by
    intro D a' hRD hle hFD;have hset:∀j,j≠p+k->(listed.setIfInBounds (p+k) true)[j]?=listed[j]?:=λj hj=>Array.getElem?_setIfInBounds_ne (Ne.symm hj);have hself:(listed.setIfInBounds (p+k) true)[p+k]?=some true:=by simp[hs,h1]
    refine ih _ D a' (by simp[hs]) (λj hj=>by rw[hset j O];exact hlo j hj) (λj hj hj2=>by rw[hset j O];exact hhi j hj hj2) (λj hj m hm=>?_) (by have:=zgd hs h2;omega) (le.trans hle) hRD hFD.defers hFD.size (λt x hx hw=>?_)
    ·by_cases e:m=p+k
     ·subst e;exact hself
     ·rw[hset m e];by_cases e2:j=p+k
      ·subst e2;exact h3 m hm
      ·rw[hset j e2]at hj;exact hdc j hj m hm
    ·by_cases e:seg[k].dst=some t
     ·have:=hv t e;rw[hx]at this;injection this with this;subst this;exact hFD.slot t x (by rw[e];simp[putA,look])
     ·refine hFD.slot t x ?_;rw[zaw e,hlk,if_pos]
      ·exact hx
      ·refine decide_eq_true λk' h' hd'=>?_;by_cases e2:p+k'=p+k
       ·have:k'=k:=O;subst this;exact absurd hd' e
       ·have:=hw k' h' hd';rwa [hset _ e2]at this
   rcases hstep with⟨hw,hop|⟨f,args,m,pre,cap,vs,hop,hf,hargs,hok⟩⟩|⟨hw,rfl⟩
   ·obtain⟨ao,hop,ha⟩:=hop;have hc':zp P fz nt ops o=some ⟨seg[k].dst,.op ao,seg[k].guard⟩:=by rw[hc,<-hop]
    refine jat ho hc' (by rw[<-hgd];exact hw) (G:=G) (G':=G) (v:=v) ?_ hF' hR λD a' q1 q2 q3=>hafter D a' q1 q2 q3;rw[<-wam λt ht=>hsame t (by simp[jd.looks,hop,ht])];exact ha
   ·have hc':zp P fz nt ops o=some ⟨seg[k].dst,.call f args,seg[k].guard⟩:=by rw[hc,<-hop]
    refine ja5 ho hc' (by rw[<-hgd];exact hw) (by rw[<-Opd.ev_congr λt ht=>hsame t (by simp[jd.looks,hop,ht])];exact hf)
     (by rw[<-wbk λt ht=>hsame t (by simp only[jd.looks,hop,List.mem_append];exact .inl (.inr ht))];exact hargs) hok hF' hR ?_
    rintro D a' r G' ⟨rfl,rfl⟩ q1 q2 q3;exact hafter D a' q1 q2 q3
   ·have hc':zp P fz nt ops o=some ⟨seg[k].dst,seg[k].op,seg[k].guard⟩:=hc;exact jbt ho hc' (by rw[<-hgd];exact hw) hF' λa' q3=>hafter C a' hR (.refl C) q3

def Feq(fr fr':Fr):Prop:=∀t,look fr t=look fr' t
theorem Feq.put(h:Feq fr fr')(d:Option Nat)(v:AV):Feq (putA fr d v) (putA fr' d v):=by
 intro t
 cases d with
 |none=>exact h t
 |some d=>simp only[putA,look];split<;>first|rfl|exact h t
theorem Feq.swap{d e:Option Nat}{v u:AV}(h:∀t,d=some t->e≠some t):Feq (putA (putA fr d v) e u) (putA (putA fr e u) d v):=by
 intro t
 cases d with
 |none=>rfl
 |some d=>
  cases e with
  |none=>rfl
  |some e=>
   have hne:d≠e:=λc=>h d rfl (by rw[c]);simp only[putA,look];by_cases c:e=t
   ·subst c;simp[hne]
   ·simp[c]
variable {Z:Fr->jb->Prop}
theorem Qc.feq(hZ:∀F F' V,Feq F F'->Z F V->Z F' V){seg:List jd}{fr:Fr}{G:jb}(h:Qc P Z seg fr G):∀{fr'},Feq fr fr'->Qc P Z seg fr' G:=by
 induction h with
 |nil h=>exactλhe=>.nil (hZ _ _ _ he h)
 |op hw ha _ ih=>exactλhe=>.op (by rw[<-jq λt _ _=>he t];exact hw) (λV=>by rw[<-wam λt _=>he t];exact ha V) (ih (he.put _ _))
 |no hw _ ih=>exactλhe=>.no (by rw[<-jq λt _ _=>he t];exact hw) (ih (he.put _ _))
 |call Q hw hf hargs hok _ ih=>exactλhe=>.call Q (by rw[<-jq λt _ _=>he t];exact hw) (by rw[<-Opd.ev_congr λt _=>he t];exact hf) (by rw[<-wbk λt _=>he t];exact hargs) hok λr G' hq=>ih r G' hq (he.put _ _)
theorem Qc.mono{Z':Fr->jb->Prop}(hZ:∀F V,Z F V->Z' F V){seg:List jd}{fr:Fr}{G:jb}(h:Qc P Z seg fr G):Qc P Z' seg fr G:=by
 induction h with
 |nil h=>exact .nil (hZ _ _ h)
 |op hw ha _ ih=>exact .op hw ha ih
 |no hw _ ih=>exact .no hw ih
 |call Q hw hf hargs hok _ ih=>exact .call Q hw hf hargs hok ih
inductive Nw(P:Program)(N:Fr->jb->Prop)(x:jd)(fr:Fr)(G:jb):Prop where
 |op (o:AOp) (v:AV):x.op=.op o->wants fr x.guard=some true->(∀V,aop o fr V=some (v,V))->N (putA fr x.dst v) G->Nw P N x fr G
 |no:wants fr x.guard=some false->N (putA fr x.dst (.tup [])) G->Nw P N x fr G
 |call (f:Opd) (args:List Opd) (n:Nat) (pre cap:List Ce) (vs:List AV) (Q:AV->jb->Prop):x.op=.call f args->wants fr x.guard=some true->f.ev fr=some (.c (.fn n pre cap))->evs fr args=some vs->
  Ok P n (pre.map .c++vs++cap.map .c) G Q->(∀r G',Q r G'->N (putA fr x.dst r) G')->Nw P N x fr G
variable {x:jd}{rest:List jd}
theorem Qc.now(h:Qc P Z (x::rest) fr G):Nw P (Qc P Z rest) x fr G:=by
 cases h with
 |op hw ha h=>exact .op _ _ rfl hw ha h
 |no hw h=>exact .no hw h
 |call Q hw hf hargs hok h=>exact .call _ _ _ _ _ _ Q rfl hw hf hargs hok h
theorem Nw.qc{Z:Fr->jb->Prop}{x:jd}{rest:List jd}{fr:Fr}{G:jb}(h:Nw P (Qc P Z rest) x fr G):Qc P Z (x::rest) fr G:=by
 obtain⟨d,op,g⟩:=x
 cases h with
 |op o v e hw ha h=>simp only at e;subst e;exact .op hw ha h
 |no hw h=>exact .no hw h
 |call f args n pre cap vs Q e hw hf hargs hok h=>simp only at e;subst e;exact .call Q hw hf hargs hok h
structure zal(y x:jd):Prop where
 xy:∀t∈x.looks,y.dst≠some t
 yx:∀t∈y.looks,x.dst≠some t
 dd:∀t,y.dst=some t->x.dst≠some t
theorem zal.wants{y x:jd}(h:zal y x)(fr:Fr)(v:AV):wants (putA fr y.dst v) x.guard=Am.wants fr x.guard:=
 jq λt b e=>zaw (h.xy t (by simp[jd.looks,e]))
theorem zal.aop{y x:jd}(h:zal y x)(fr:Fr)(v:AV){o:AOp}(e:x.op=.op o)(V:jb):aop o (putA fr y.dst v) V=Am.aop o fr V:=
 wam λt ht=>zaw (h.xy t (by simp[jd.looks,e,ht]))
theorem zal.ev{y:jd}(h:zal y x)(fr:Fr)(v:AV){f:Opd}{args:List Opd}(e:x.op=.call f args):f.ev (putA fr y.dst v)=f.ev fr:=
 Opd.ev_congr λt ht=>zaw (h.xy t (by simp[jd.looks,e,ht]))
theorem zal.evs{y x:jd}(h:zal y x)(fr:Fr)(v:AV){f:Opd}{args:List Opd}(e:x.op=.call f args):evs (putA fr y.dst v) args=Am.evs fr args:=
 wbk λt ht=>zaw (h.xy t (by simp only[jd.looks,e,List.mem_append];exact .inl (.inr ht)))
theorem zal.symm{y:jd}(h:zal y x):zal x y:=⟨h.yx,h.xy,λt e e'=>h.dd t e' e⟩
theorem Qc.ahead{Z:Fr->jb->Prop}(hZ:∀F F' V,Feq F F'->Z F V->Z F' V){x:jd}{s2:List jd}{v:AV}:∀(s1:List jd) {fr:Fr} {G:jb},(∀y∈s1,zal y x)->Qc P Z (s1++x::s2) fr G->
 ((∃o,x.op=.op o/\Am.wants fr x.guard=some true/\∀V,aop o fr V=some (v,V))\/(Am.wants fr x.guard=some false/\v=.tup []))->Qc P Z (s1++s2) (putA fr x.dst v) G
 |[],fr,G,_,h,hv=>by
  rcases hv with⟨o,e,hw,ha⟩|⟨hw,rfl⟩
  ·cases h.now with
   |op o' v' e' hw' ha' hn=>
    rw[e]at e';injection e' with e';subst e';have:=ha G;rw[ha' G]at this;injection this with this;injection this with this;subst this;exact hn
   |no hw' hn=>rw[hw]at hw';cases hw'
   |call f args n pre cap vs Q e'=>rw[e]at e';cases e'
  ·cases h.now with
   |op o' v' e' hw'=>rw[hw]at hw';cases hw'
   |no hw' hn=>exact hn
   |call f args n pre cap vs Q e' hw'=>rw[hw]at hw';cases hw'
 |y::s1,fr,G,hap,h,hv=>by
  have hyx:=hap y gx;have hap':∀z∈s1,zal z x:=λz hz=>hap z (by simp[hz]);have hv':∀u,((∃o,x.op=.op o/\Am.wants (putA fr y.dst u) x.guard=some true/\∀V,Am.aop o (putA fr y.dst u) V=some (v,V))\/(Am.wants (putA fr y.dst u) x.guard=some false/\v=.tup [])):=by
   intro u;rcases hv with⟨o,e,hw,ha⟩|⟨hw,rfl⟩
   ·exact .inl ⟨o,e,by rw[hyx.wants];exact hw,λV=>by rw[hyx.aop fr u e];exact ha V⟩
   ·exact .inr ⟨by rw[hyx.wants];exact hw,rfl⟩
  have go:∀{u G'},Qc P Z (s1++x::s2) (putA fr y.dst u) G'->Qc P Z (s1++s2) (putA (putA fr x.dst v) y.dst u) G':=λhq=>
   (Qc.ahead hZ s1 hap' hq (hv' _)).feq hZ (Feq.swap hyx.dd)
  refine Nw.qc ?_
  cases Qc.now h with
  |op o u e hw ha hn=>exact .op o u e (by rw[hyx.symm.wants];exact hw) (λV=>by rw[hyx.symm.aop fr v e];exact ha V) (go hn)
  |no hw hn=>exact .no (by rw[hyx.symm.wants];exact hw) (go hn)
  |call f args n pre cap vs Q e hw hf hargs hok hn=>exact .call f args n pre cap vs Q e (by rw[hyx.symm.wants];exact hw) (by rw[hyx.symm.ev fr v e];exact hf) (by rw[hyx.symm.evs fr v e];exact hargs) hok λr G' hq=>go (hn r G' hq)
theorem Qc.callAhead{Z:Fr->jb->Prop}(hZ:∀F F' V,Feq F F'->Z F V->Z F' V){x:jd}{s2:List jd}(hx:x.op.isCall=true):∀(s1:List jd) {fr:Fr} {G:jb},(∀y∈s1,zal y x)->(∀y∈s1,y.op.isCall=false)->Qc P Z (s1++x::s2) fr G->
 Nw P (Qc P Z (s1++s2)) x fr G
 |[],fr,G,_,_,h=>h.now
 |y::s1,fr,G,hap,hc,h=>by
  have hyx:=hap y gx;have hap':∀z∈s1,zal z x:=λz hz=>hap z (by simp[hz]);have hc':∀z∈s1,z.op.isCall=false:=λz hz=>hc z (by simp[hz]);have key:∀{u},Qc P Z (s1++x::s2) (putA fr y.dst u) G->(∀{w G'},Qc P Z (s1++s2) (putA (putA fr y.dst u) x.dst w) G'->Qc P Z (y::(s1++s2)) (putA fr x.dst w) G')->Nw P (Qc P Z (y::(s1++s2))) x fr G:=by
   intro u hq hback
   cases Qc.callAhead hZ hx s1 hap' hc' hq with
   |op o w e hw ha hn=>rw[e]at hx;cases hx
   |no hw hn=>exact .no (by rw[<-hyx.wants fr u];exact hw) (hback hn)
   |call f args n pre cap vs Q e hw hf hargs hok hn=>exact .call f args n pre cap vs Q e (by rw[<-hyx.wants fr u];exact hw) (by rw[<-hyx.ev fr u e];exact hf) (by rw[<-hyx.evs fr u e];exact hargs) hok λr G' hqq=>hback (hn r G' hqq)
  cases Qc.now h with
  |op o u e hw ha hn=>exact key hn λhq=>Nw.qc (.op o u e (by rw[hyx.symm.wants];exact hw) (λV=>by rw[hyx.symm.aop fr _ e];exact ha V) (hq.feq hZ (Feq.swap hyx.dd)))
  |no hw hn=>exact key hn λhq=>Nw.qc (.no (by rw[hyx.symm.wants];exact hw) (hq.feq hZ (Feq.swap hyx.dd)))
  |call f args n pre cap vs Q e=>have:=hc y gx;rw[e]at this;cases this
def Live(nt:Nat)(fr:Fr)(G:jb):Prop:=∃(C:Cx) (a:Act),Rl C G/\FrR C nt fr a
theorem Qc.valid{fz:List Nat}{nt:Nat}{Z:Fr->jb->Prop}{x:jd}{s2:List jd}(hx:x.op.isCall=false):∀(s1:List jd) {fr:Fr} {G:jb},(∀y∈s1,zal y x)->(∀y∈s1,∃o,zp P fz nt ops o=some y)->Live nt fr G->Qc P Z (s1++x::s2) fr G->
 ∃v,((∃o,x.op=.op o/\Am.wants fr x.guard=some true/\∀V,aop o fr V=some (v,V))\/(Am.wants fr x.guard=some false/\v=.tup []))
 |[],fr,G,_,_,_,h=>by
  cases h.now with
  |op o v e hw ha hn=>exact⟨v,.inl ⟨o,e,hw,ha⟩⟩
  |no hw hn=>exact⟨_,.inr ⟨hw,rfl⟩⟩
  |call f args n pre cap vs Q e=>rw[e]at hx;cases hx
 |y::s1,fr,G,hap,hcm,⟨C,a,hR,hF⟩,h=>by
  have hyx:=hap y gx;have hap':∀z∈s1,zal z x:=λz hz=>hap z (by simp[hz]);have hcm':∀z∈s1,∃o,zp P fz nt ops o=some z:=λz hz=>hcm z (by simp[hz]);obtain⟨oo,hco⟩:=hcm y gx;have back:∀{u G'},Live nt (putA fr y.dst u) G'->Qc P Z (s1++x::s2) (putA fr y.dst u) G'->∃v,((∃o,x.op=.op o/\Am.wants fr x.guard=some true/\∀V,Am.aop o fr V=some (v,V))\/(Am.wants fr x.guard=some false/\v=.tup [])):=by
   intro u G' hl hq;obtain⟨v,hv⟩:=Qc.valid hx s1 hap' hcm' hl hq;refine⟨v, ?_⟩;rcases hv with⟨o,e,hw,ha⟩|⟨hw,rfl⟩
   ·exact .inl ⟨o,e,by rw[<-hyx.wants fr u];exact hw,λV=>by rw[<-hyx.aop fr u e];exact ha V⟩
   ·exact .inr ⟨by rw[<-hyx.wants fr u];exact hw,rfl⟩
  obtain⟨d,op,g⟩:=y
  cases Qc.now h with
  |op o u e hw ha hn=>
   simp only at e;subst e;obtain⟨w1,w2,w3,fzb,w4⟩:=j7 hco hF hw;simp only at w3 w4;obtain⟨D,q,hR',hle,hxx,hrun⟩:=zdj w4 (ha G) hR hF;refine back (u:=u) (G':=G) ⟨D,a.put oo.dst q,hR', ?_⟩ hn;rw[w3];exact(hF.mono hle).putA (λt e=>w2 t (w3.trans e)) hxx
  |no hw hn=>
   obtain⟨w1,w2,w3,fzb,w4⟩:=j7 hco hF hw;simp only at w3 w4;refine back ⟨C,a.put oo.dst undef,hR, ?_⟩ hn;rw[w3];exact hF.putA (λt e=>w2 t (w3.trans e)) (.tup rfl λi hi=>by simp at hi)
  |call f args n pre cap vs Q e hw hf hargs hok hn=>
   simp only at e;subst e;obtain⟨w1,w2,w3,fzb,w4⟩:=j7 hco hF hw;simp only at w3 w4;obtain⟨D,a',r,G',hq,hRD,hFD⟩:=jg1 w4 w2 w3 hf hargs hok hF hR;exact back ⟨D,a',hRD,hFD⟩ (hn r G' hq)
variable {hv:AO->Bool}
theorem jdw(h:zeu hv ms p seg=true){k k':Nat}(hk:k<seg.length)(hk':k'<seg.length)(hlt:k<k')(hc:hv seg[k].op=true)(hc':hv seg[k'].op=true):(zbx ms (p+k') (ms.getD (p+k') 0)).testBit (p+k)=true:=by
 unfold zeu at h;simp only[List.all_eq_true,List.mem_filter,Bool.or_eq_true]at h;have:=h (p+k,seg[k]) ⟨zm.2 ⟨k,hk,rfl,rfl⟩,hc⟩ (p+k',seg[k']) ⟨zm.2 ⟨k',hk',rfl,rfl⟩,hc'⟩;rcases this with h1|h1
 ·simp at h1;omega
 ·exact h1
inductive Nx(P:Program)(N:Fr->jb->Prop)(x:jd)(fr:Fr)(G:jb):Prop where
 |op (o:AOp) (v:AV) (G':jb):x.op=.op o->wants fr x.guard=some true->aop o fr G=some (v,G')->N (putA fr x.dst v) G'->Nx P N x fr G
 |no:wants fr x.guard=some false->N (putA fr x.dst (.tup [])) G->Nx P N x fr G
 |call (f:Opd) (args:List Opd) (n:Nat) (pre cap:List Ce) (vs:List AV) (Q:AV->jb->Prop):x.op=.call f args->wants fr x.guard=some true->f.ev fr=some (.c (.fn n pre cap))->evs fr args=some vs->
  Ok P n (pre.map .c++vs++cap.map .c) G Q->(∀r G',Q r G'->N (putA fr x.dst r) G')->Nx P N x fr G
def left(p:Nat)(seg:List jd)(listed:Array Bool):List (Nat×jd):=(jr p seg).filter λx=> !(listed.getD x.1 false)
theorem jd8{α:Type}:∀{l:List α} {p:Nat},((jr p l).map (·.1)).Pairwise (· < ·)
 |[],p=>by simp[jr]
 |x::l,p=>by
  simp only[jr,List.map_cons,List.pairwise_cons];refine⟨λi hi=>?_,jd8⟩;obtain⟨⟨j,y⟩,hm,rfl⟩:=List.mem_map.1 hi;obtain⟨k,_,rfl,_⟩:=zm.1 hm;simp only;omega
variable {W:List jd->Fr->jb->Prop}
open Classical in
theorem zi7{cf:AO->AO->Bool}(hWnil:∀F V,W [] F V->Z F V)
 (hW:∀(x:jd) (s1 s2:List jd) (fr:Fr) (G:jb),(∀y∈s1,zal y x)->(∀y∈s1,∃o,zp P fz nt ops o=some y)->(∀y∈s1,cf y.op x.op=false)->Live nt fr G->W (s1++x::s2) fr G->Nx P (W (s1++s2)) x fr G) (hA:Aft ops ms) (hq:p+seg.length<=ops.size) (hne:seg≠[])
 (hseg:∀k (h:k<seg.length),∃o,ops[p+k]?=some o/\zp P fz nt ops o=some seg[k])
 (hdst:∀k k' (h:k<seg.length) (h':k'<seg.length) d,k≠k'->seg[k].dst=some d->seg[k'].dst≠some d)
 (hlook:∀k k' (h:k<seg.length) (h':k'<seg.length) t,t∈seg[k].looks->seg[k'].dst=some t->(ms.getD (p+k) 0).testBit (p+k')=true)
 (hchain:∀k k' (hk:k<seg.length) (hk':k'<seg.length),k<k'->cf seg[k].op seg[k'].op=true->(zbx ms (p+k') (ms.getD (p+k') 0)).testBit (p+k)=true)
 (hcut:p+seg.length<ops.size->zgb (wbz ms) (p+seg.length)=true)
 (hnext:∀(D:Cx) (a:Act) (F:Fr) (G:jb) (listed:Array Bool) (fuel:Nat),Z F G->Upto ops.size (p+seg.length) listed->rem ops.size listed<=fuel->C0.Le D->FrR D nt F a->Rl D G->wpAny P .any ops Q fuel listed a D.w):
 ∀(fuel:Nat) (listed:Array Bool) (C:Cx) (a:Act) (fr:Fr) (G:jb),listed.size=ops.size->(∀i,i<p->listed[i]?=some true)->(∀i,p+seg.length<=i->i<ops.size->listed[i]?=some false)->
  (∀i,listed[i]?=some true->∀j,(ms.getD i 0).testBit j=true->listed[j]?=some true)->rem ops.size listed<=fuel->C0.Le C->Rl C G->FrR C nt fr a->
  W ((left p seg listed).map (·.2)) fr G->wpAny P .any ops Q fuel listed a C.w:=by
 intro fuel
 have done:∀(listed:Array Bool) (fuel:Nat) (C:Cx) (a:Act) (fr:Fr) (G:jb),listed.size=ops.size->(∀i,i<p+seg.length->listed[i]?=some true)->(∀i,p+seg.length<=i->i<ops.size->listed[i]?=some false)->rem ops.size listed<=fuel->C0.Le C->Rl C G->FrR C nt fr a->
  W ((left p seg listed).map (·.2)) fr G->wpAny P .any ops Q fuel listed a C.w:=by
  intro listed fuel C a fr G hs all hhi hrem le hR hF hqc;have hnil:left p seg listed=[]:=by
   unfold left;rw[List.filter_eq_nil_iff];rintro⟨i,x⟩ hx;obtain⟨k,hk,rfl,_⟩:=zm.1 hx;have:=all (p+k) O;simp[Array.getD_eq_getD_getElem?,this]
  rw[hnil]at hqc;refine hnext C a fr G listed fuel (hWnil _ _ hqc) ⟨hs,λi hi=>?_⟩ hrem le hF hR;by_cases e:i<p+seg.length
  ·rw[all i e];simp[e]
  ·rw[hhi i O hi];simp[e]
 induction fuel with
 |zero=>
  intro listed C a fr G hs hlo hhi hdc hrem le hR hF hqc;refine done listed 0 C a fr G hs (λi hi=>?_) hhi hrem le hR hF hqc;have hlt:i<listed.size:=O
  cases hb:listed[i]'hlt with
  |true=>simp[hlt,hb]
  |false=>
   have:=zhs (n:=ops.size) (i:=i) hs (by simp[hlt,hb]);omega
 |succ n ih=>
  intro listed C a fr G hs hlo hhi hdc hrem le hR hF hqc;by_cases hall:∀i,i<p+seg.length->listed[i]?=some true
  ·exact done listed (n+1) C a fr G hs hall hhi hrem le hR hF hqc
  ·have hun:∃i,i<p+seg.length/\listed[i]?=some false:=by
    simp only[not_forall]at hall;obtain⟨i,hi,hne⟩:=hall;refine⟨i,hi, ?_⟩;have hlt:i<listed.size:=O
    cases hb:listed[i]'hlt with
    |true=>exact absurd (by simp[hlt,hb]) hne
    |false=>simp[hlt,hb]
   have hready:Region.ready .any ops listed≠[]:=by
    obtain⟨i,hi,hf⟩:=hun;have:∀m i,i<m->i<p+seg.length->listed[i]?=some false->∃r,r∈Region.ready .any ops listed:=by
     intro m
     induction m with
     |zero=>intro i hi;omega
     |succ m ihm=>
      intro i him hi hf;by_cases hr:∀j,(ms.getD i 0).testBit j=true->listed[j]?=some true
      ·exact⟨i,(zbl hA hs).2 ⟨O,hf,hr⟩⟩
      ·simp only[not_forall]at hr;obtain⟨j,hj,hne⟩:=hr;have hji:=hA.lt i j hj;have hlt:j<listed.size:=O;refine ihm j O O ?_
       cases hb:listed[j]'hlt with
       |true=>exact absurd (by simp[hlt,hb]) hne
       |false=>simp[hlt,hb]
    obtain⟨r,hr⟩:=this (i+1) i O hi hf;intro e;rw[e]at hr;simp at hr
   refine⟨λe=>absurd e hready,λi hi=>?_⟩;obtain⟨h1,h2,h3⟩:=(zbl hA hs).1 hi;have hge:p<=i:=by
    by_cases e:i<p
    ·rw[hlo i e]at h2;cases h2
    ·omega
   have hlt:i<p+seg.length:=by
    by_cases e:i<p+seg.length
    ·exact e
    ·obtain⟨j,hj,hf⟩:=hun;have:=zda (hcut O) (D:=λj=>listed[j]?=some true) hdc (i:=i) O (by rw[hA.len];exact h1) h3 (j:=j) hj;rw[hf]at this
     cases this
   obtain⟨k,rfl⟩:∃k,i=p+k:=⟨i-p,O⟩;have hk:k<seg.length:=O;obtain⟨o,ho,hc⟩:=hseg k hk
   -- its place among what is left
   have hmem:(p+k,seg[k])∈left p seg listed:=by
    unfold left;rw[List.mem_filter];refine⟨zm.2 ⟨k,hk,rfl,rfl⟩, ?_⟩;simp[Array.getD_eq_getD_getElem?,h2]
   obtain⟨l1,l2,hl12⟩:=List.append_of_mem hmem;have hpw:((left p seg listed).map (·.1)).Pairwise (· < ·):=List.Pairwise.sublist (List.Sublist.map _ List.filter_sublist) jd8;have hl1lt:∀z∈l1,z.1<p+k:=by
    intro z hz;rw[hl12,yak,List.pairwise_append]at hpw;exact hpw.2.2 z.1 (List.mem_map_of_mem hz) (p+k) gx
   have hl2gt:∀z∈l2,p+k<z.1:=by
    intro z hz;rw[hl12,yak,List.pairwise_append,ybv,List.pairwise_cons]at hpw;exact hpw.2.1.1 z.1 (List.mem_map_of_mem hz)
   have hl1:∀z∈l1,∃m,∃hm:m<seg.length,m<k/\z=(p+m,seg[m])/\¬listed[p+m]?=some true:=by
    intro z hz;have hzm:z∈left p seg listed:=by rw[hl12];exact List.mem_append_left _ hz
    unfold left at hzm;rw[List.mem_filter]at hzm;obtain⟨i,x⟩:=z;obtain⟨m,hm,rfl,rfl⟩:=zm.1 hzm.1;have:=hl1lt _ hz;refine⟨m,hm,by simp at this;omega,rfl,λe=>?_⟩;have h9:=hzm.2;simp[Array.getD_eq_getD_getElem?,e]at h9
   have hap:∀y∈l1.map (·.2),zal y seg[k]:=by
    intro y hy;obtain⟨z,hz,rfl⟩:=List.mem_map.1 hy;obtain⟨m,hm,hmk,rfl,hnl⟩:=hl1 z hz;refine⟨λt ht hd=>hnl (h3 _ (hlook k m hk hm t ht hd)),λt ht hd=>?_,λt hd=>hdst m k hm hk t O hd⟩;have:=hA.lt _ _ (hlook m k hm hk t ht hd);omega
   have hcm:∀y∈l1.map (·.2),∃o,zp P fz nt ops o=some y:=by
    intro y hy;obtain⟨z,hz,rfl⟩:=List.mem_map.1 hy;obtain⟨m,hm,_,rfl,_⟩:=hl1 z hz;obtain⟨o,_,h⟩:=hseg m hm;exact⟨o,h⟩
   have hleft:(left p seg (listed.setIfInBounds (p+k) true))=l1++l2:=by
    have e1:left p seg (listed.setIfInBounds (p+k) true)=(left p seg listed).filter λx=>x.1 !=p+k:=by
     unfold left;rw[List.filter_filter];refine List.filter_congr λz hz=>?_;obtain⟨i,x⟩:=z;obtain⟨m,hm,rfl,rfl⟩:=zm.1 hz;by_cases e:m=k
     ·subst e;simp[Array.getD_eq_getD_getElem?,hs,h1]
     ·simp[Array.getD_eq_getD_getElem?,Array.getElem?_setIfInBounds_ne (show p+k≠p+m by omega),e]
    rw[e1,hl12,List.filter_append,List.filter_cons];have f1:l1.filter (λx=>x.1 !=p+k)=l1:=List.filter_eq_self.2 λz hz=>by have:=hl1lt z hz;simp;omega
    have f2:l2.filter (λx=>x.1 !=p+k)=l2:=List.filter_eq_self.2 λz hz=>by have:=hl2gt z hz;simp;omega
    rw[f1,f2];simp
   have hset:∀j,j≠p+k->(listed.setIfInBounds (p+k) true)[j]?=listed[j]?:=λj hj=>Array.getElem?_setIfInBounds_ne (Ne.symm hj);have hself:(listed.setIfInBounds (p+k) true)[p+k]?=some true:=by simp[hs,h1]
   have hafter:∀(D:Cx) (a':Act) (F:Fr) (V:jb),Rl D V->C.Le D->FrR D nt F a'->W (l1.map (·.2)++l2.map (·.2)) F V->wpAny P .any ops Q n (listed.setIfInBounds (p+k) true) a' D.w:=by
    intro D a' F V hRD hle hFD hqd;refine ih _ D a' F V (by simp[hs]) (λj hj=>by rw[hset j O];exact hlo j hj) (λj hj hj2=>by rw[hset j O];exact hhi j hj hj2) (λj hj m hm=>?_) (by have:=zgd hs h2;omega) (le.trans hle) hRD hFD ?_
    ·by_cases e:m=p+k
     ·subst e;exact hself
     ·rw[hset m e];by_cases e2:j=p+k
      ·subst e2;exact h3 m hm
      ·rw[hset j e2]at hj;exact hdc j hj m hm
    ·rw[hleft,yak];exact hqd
   rw[hl12,yak,ybv]at hqc;have hnc:∀y∈l1.map (·.2),cf y.op seg[k].op=false:=by
    intro y hy;obtain⟨z,hz,rfl⟩:=List.mem_map.1 hy;obtain⟨m,hm,hmk,rfl,hnl⟩:=hl1 z hz
    cases hcy:cf seg[m].op seg[k].op with
    |false=>rfl
    |true=>exact absurd (jb7 (D:=λj=>listed[j]?=some true) hdc (p+k) _ h3 (p+m) (hchain m k hm hk hmk hcy)) hnl
   cases hW _ _ _ _ _ hap hcm hnc ⟨C,a,hR,hF⟩ hqc with
   |op ao v G' hop hw ha hn=>
    have hc':zp P fz nt ops o=some ⟨seg[k].dst,.op ao,seg[k].guard⟩:=by rw[hc,<-hop]
    exact jat ho hc' hw ha hF hR λD a' q1 q2 q3=>hafter D a' _ _ q1 q2 q3 hn
   |no hw hn=>
    have hc':zp P fz nt ops o=some ⟨seg[k].dst,seg[k].op,seg[k].guard⟩:=hc;exact jbt ho hc' hw hF λa' q3=>hafter C a' _ _ hR (.refl C) q3 hn
   |call f args m pre cap vs Q' e hw hf hargs hok hn=>
    have hc':zp P fz nt ops o=some ⟨seg[k].dst,.call f args,seg[k].guard⟩:=by rw[hc,<-e]
    exact ja5 ho hc' hw hf hargs hok hF hR λD a' r G' hq q1 q2 q3=>hafter D a' _ _ q1 q2 q3 (hn r G' hq)
theorem jle(hWnil:∀F V,W [] F V->Z F V)
 (hW:∀(x:jd) (s1 s2:List jd) (fr:Fr) (G:jb),(∀y∈s1,zal y x)->(∀y∈s1,∃o,zp P fz nt ops o=some y)->(hv x.op=true->∀y∈s1,hv y.op=false)->Live nt fr G->W (s1++x::s2) fr G->Nx P (W (s1++s2)) x fr G) (hA:Aft ops ms) (hq:p+seg.length<=ops.size) (hne:seg≠[])
 (hseg:∀k (h:k<seg.length),∃o,ops[p+k]?=some o/\zp P fz nt ops o=some seg[k])
 (hdst:∀k k' (h:k<seg.length) (h':k'<seg.length) d,k≠k'->seg[k].dst=some d->seg[k'].dst≠some d)
 (hlook:∀k k' (h:k<seg.length) (h':k'<seg.length) t,t∈seg[k].looks->seg[k'].dst=some t->(ms.getD (p+k) 0).testBit (p+k')=true)
 (hchain:zeu hv ms p seg=true)
 (hcut:p+seg.length<ops.size->zgb (wbz ms) (p+seg.length)=true)
 (hnext:∀(D:Cx) (a:Act) (F:Fr) (G:jb) (listed:Array Bool) (fuel:Nat),Z F G->Upto ops.size (p+seg.length) listed->rem ops.size listed<=fuel->C0.Le D->FrR D nt F a->Rl D G->wpAny P .any ops Q fuel listed a D.w):
 ∀(fuel:Nat) (listed:Array Bool) (C:Cx) (a:Act) (fr:Fr) (G:jb),listed.size=ops.size->(∀i,i<p->listed[i]?=some true)->(∀i,p+seg.length<=i->i<ops.size->listed[i]?=some false)->
  (∀i,listed[i]?=some true->∀j,(ms.getD i 0).testBit j=true->listed[j]?=some true)->rem ops.size listed<=fuel->C0.Le C->Rl C G->FrR C nt fr a->
  W ((left p seg listed).map (·.2)) fr G->wpAny P .any ops Q fuel listed a C.w:=
 zi7 (cf:=λa b=>hv a&&hv b) hWnil (λx s1 s2 fr G hap hcm hnc=>hW x s1 s2 fr G hap hcm λhx y hy=>by have:=hnc y hy;simpa [hx]using this) hA hq hne hseg hdst hlook
  (λk k' hk hk' hlt hc=>by
    simp only[Bool.and_eq_true]at hc;exact jdw hchain hk hk' hlt hc.1 hc.2) hcut hnext
theorem Qc.next(hZ:∀F F' V,Feq F F'->Z F V->Z F' V)(x:jd)(s1 s2:List jd)(fr:Fr)(G:jb)(hap:∀y∈s1,zal y x)(hcm:∀y∈s1,∃o,zp P fz nt ops o=some y)(hnc:x.op.isCall=true->∀y∈s1,y.op.isCall=false)(hl:Live nt fr G)(h:Qc P Z (s1++x::s2) fr G):Nx P (Qc P Z (s1++s2)) x fr G:=by
 cases hcall:x.op.isCall with
 |false=>
  obtain⟨v,hv⟩:=Qc.valid hcall _ hap hcm hl h;have hn:=Qc.ahead hZ _ hap h hv;rcases hv with⟨ao,hop,hw,ha⟩|⟨hw,rfl⟩
  ·exact .op ao v G hop hw (ha G) hn
  ·exact .no hw hn
 |true=>
  cases Qc.callAhead hZ hcall _ hap (hnc hcall) h with
  |op ao v e=>rw[e]at hcall;cases hcall
  |no hw hn=>exact .no hw hn
  |call f args m pre cap vs Q' e hw hf hargs hok hn=>exact .call f args m pre cap vs Q' e hw hf hargs hok hn
variable {I:jb->Prop}
theorem Qk.feq(hZ:∀F F' V,Feq F F'->Z F V->Z F' V){seg:List jd}{fr:Fr}{G:jb}(h:Qk P I Z seg fr G):∀{fr'},Feq fr fr'->Qk P I Z seg fr' G:=by
 induction h with
 |nil h=>exactλhe=>.nil (hZ _ _ _ he h)
 |op hw ha _ ih=>exactλhe=>.op (by rw[<-jq λt _ _=>he t];exact hw) (λV hτ=>by rw[<-wam λt _=>he t];exact ha V hτ) (ih (he.put _ _))
 |no hw _ ih=>exactλhe=>.no (by rw[<-jq λt _ _=>he t];exact hw) (ih (he.put _ _))
 |call hw hf hargs hok _ ih=>exactλhe=>.call (by rw[<-jq λt _ _=>he t];exact hw) (by rw[<-Opd.ev_congr λt _=>he t];exact hf) (by rw[<-wbk λt _=>he t];exact hargs) hok (ih (he.put _ _))
 |wop ho hw ha hI _ ih=>exactλhe=>.wop ho (by rw[<-jq λt _ _=>he t];exact hw) (by rw[<-wam λt _=>he t];exact ha) hI (ih (he.put _ _))
theorem Qk.mono{Z':Fr->jb->Prop}(hZ:∀F V,Z F V->Z' F V){seg:List jd}{fr:Fr}{G:jb}(h:Qk P I Z seg fr G):Qk P I Z' seg fr G:=by
 induction h with
 |nil h=>exact .nil (hZ _ _ h)
 |op hw ha _ ih=>exact .op hw ha ih
 |no hw _ ih=>exact .no hw ih
 |call hw hf hargs hok _ ih=>exact .call hw hf hargs hok ih
 |wop ho hw ha hI _ ih=>exact .wop ho hw ha hI ih
inductive Nk(P:Program)(I:jb->Prop)(N:Fr->jb->Prop)(x:jd)(fr:Fr)(G:jb):Prop where
 |op (o:AOp) (v:AV):x.op=.op o->wants fr x.guard=some true->(∀V,I V->aop o fr V=some (v,V))->N (putA fr x.dst v) G->Nk P I N x fr G
 |no:wants fr x.guard=some false->N (putA fr x.dst (.tup [])) G->Nk P I N x fr G
 |call (f:Opd) (args:List Opd) (n:Nat) (pre cap:List Ce) (vs:List AV) (r:AV):x.op=.call f args->wants fr x.guard=some true->f.ev fr=some (.c (.fn n pre cap))->evs fr args=some vs->
  (∀V,I V->Ok P n (pre.map .c++vs++cap.map .c) V (λr' V'=>r'=r/\V'=V))->N (putA fr x.dst r) G->Nk P I N x fr G
 |wop (o:AOp) (v:AV) (G':jb):x.op=.op o->o.writes=true->wants fr x.guard=some true->aop o fr G=some (v,G')->I G'->N (putA fr x.dst v) G'->Nk P I N x fr G
theorem Qk.now(h:Qk P I Z (x::rest) fr G):Nk P I (Qk P I Z rest) x fr G:=by
 cases h with
 |op hw ha h=>exact .op _ _ rfl hw ha h
 |no hw h=>exact .no hw h
 |call hw hf hargs hok h=>exact .call _ _ _ _ _ _ _ rfl hw hf hargs hok h
 |wop ho hw ha hI h=>exact .wop _ _ _ rfl ho hw ha hI h
theorem Nk.qk{I:jb->Prop}{Z:Fr->jb->Prop}{x:jd}{rest:List jd}{fr:Fr}{G:jb}(h:Nk P I (Qk P I Z rest) x fr G):Qk P I Z (x::rest) fr G:=by
 obtain⟨d,op,g⟩:=x
 cases h with
 |op o v e hw ha h=>simp only at e;subst e;exact .op hw ha h
 |no hw h=>exact .no hw h
 |call f args n pre cap vs r e hw hf hargs hok h=>simp only at e;subst e;exact .call hw hf hargs hok h
 |wop o v G' e ho hw ha hI h=>simp only at e;subst e;exact .wop ho hw ha hI h
theorem Qk.ahead{I:jb->Prop}{Z:Fr->jb->Prop}(hZ:∀F F' V,Feq F F'->Z F V->Z F' V){x:jd}{s2:List jd}:∀(s1:List jd) {fr:Fr} {G:jb},I G->(∀y∈s1,zal y x)->(x.op.writes=true->∀y∈s1,y.op.writes=false)->Qk P I Z (s1++x::s2) fr G->
 Nk P I (λF V=>I V/\Qk P I Z (s1++s2) F V) x fr G
 |[],fr,G,hI,_,_,h=>by
  cases h.now with
  |op o v e hw ha hn=>exact .op o v e hw ha ⟨hI,hn⟩
  |no hw hn=>exact .no hw ⟨hI,hn⟩
  |call f args n pre cap vs r e hw hf hargs hok hn=>exact .call f args n pre cap vs r e hw hf hargs hok ⟨hI,hn⟩
  |wop o v G' e ho hw ha hI' hn=>exact .wop o v G' e ho hw ha hI' ⟨hI',hn⟩
 |y::s1,fr,G,hI,hap,hnc,h=>by
  have hyx:=hap y gx;have hap':∀z∈s1,zal z x:=λz hz=>hap z (by simp[hz]);have hnc':x.op.writes=true->∀z∈s1,z.op.writes=false:=λhx z hz=>hnc hx z (by simp[hz])
  have key:∀{u G'},I G'->Qk P I Z (s1++x::s2) (putA fr y.dst u) G'->(x.op.writes=true->G'=G)->
   (∀{w V},I V->(x.op.writes=true\/V=G')->Qk P I Z (s1++s2) (putA (putA fr y.dst u) x.dst w) V->Qk P I Z (y::(s1++s2)) (putA fr x.dst w) (if x.op.writes then V else G))->Nk P I (λF V=>I V/\Qk P I Z (y::(s1++s2)) F V) x fr G:=by
   intro u G' hI' hq hxs hback
   cases Qk.ahead hZ s1 hI' hap' hnc' hq with
   |op o v e hw ha hn=>
    have hb:=hback (w:=v) hI' (.inr rfl) hn.2;refine .op o v e (by rw[<-hyx.wants fr u];exact hw) (λV hτ=>by rw[<-hyx.aop fr u e];exact ha V hτ) ⟨hI, ?_⟩
    cases hx:x.op.writes with
    |false=>rw[hx]at hb;exact hb
    |true=>rw[hx]at hb;rw[<-hxs hx];exact hb
   |no hw hn=>
    have hb:=hback (w:=.tup []) hI' (.inr rfl) hn.2;refine .no (by rw[<-hyx.wants fr u];exact hw) ⟨hI, ?_⟩
    cases hx:x.op.writes with
    |false=>rw[hx]at hb;exact hb
    |true=>rw[hx]at hb;rw[<-hxs hx];exact hb
   |call f args n pre cap vs r e hw hf hargs hok hn=>
    have hb:=hback (w:=r) hI' (.inr rfl) hn.2;refine .call f args n pre cap vs r e (by rw[<-hyx.wants fr u];exact hw) (by rw[<-hyx.ev fr u e];exact hf) (by rw[<-hyx.evs fr u e];exact hargs) hok ⟨hI, ?_⟩;rw[e]at hb;exact hb
   |wop o v V e ho hw ha hI2 hn=>
    have hx:x.op.writes=true:=by rw[e];exact ho
    have hb:=hback (w:=v) hI2 (.inl hx) hn.2;rw[hx]at hb;refine .wop o v V e ho (by rw[<-hyx.wants fr u];exact hw) (by rw[<-hyx.aop fr u e,<-hxs hx];exact ha) hI2 ⟨hI2,hb⟩
  cases Qk.now h with
  |op o u e hw ha hn=>
   refine key hI hn (λ_=>rfl) λ{w V} hτ hor hq=>?_;have hτ2:(if x.op.writes then V else G)=V:=by
    rcases hor with h1|h1
    ·rw[if_pos h1]
    ·subst h1;split<;>rfl
   rw[hτ2];exact Nk.qk (.op o u e (by rw[hyx.symm.wants];exact hw) (λV hτ=>by rw[hyx.symm.aop fr _ e];exact ha V hτ) (hq.feq hZ (Feq.swap hyx.dd)))
  |no hw hn=>
   refine key hI hn (λ_=>rfl) λ{w V} hτ hor hq=>?_;have hτ2:(if x.op.writes then V else G)=V:=by
    rcases hor with h1|h1
    ·rw[if_pos h1]
    ·subst h1;split<;>rfl
   rw[hτ2];exact Nk.qk (.no (by rw[hyx.symm.wants];exact hw) (hq.feq hZ (Feq.swap hyx.dd)))
  |call f args n pre cap vs r e hw hf hargs hok hn=>
   refine key hI hn (λ_=>rfl) λ{w V} hτ hor hq=>?_;have hτ2:(if x.op.writes then V else G)=V:=by
    rcases hor with h1|h1
    ·rw[if_pos h1]
    ·subst h1;split<;>rfl
   rw[hτ2];exact Nk.qk (.call f args n pre cap vs r e (by rw[hyx.symm.wants];exact hw) (by rw[hyx.symm.ev fr _ e];exact hf) (by rw[hyx.symm.evs fr _ e];exact hargs) hok (hq.feq hZ (Feq.swap hyx.dd)))
  |wop o u G' e ho hw ha hI' hn=>
   have hxw:x.op.writes=false:=by
    cases hx:x.op.writes with
    |false=>rfl
    |true=>
     have:=hnc hx y gx;rw[e]at this;rw[show AO.writes (.op o)=o.writes from rfl,ho]at this
     cases this
   refine key hI' hn (λhx=>by rw[hxw]at hx;cases hx) λ{w V} hτ hor hq=>?_;rw[hxw];have hτ2:V=G':=by
    rcases hor with h1|h1
    ·rw[hxw]at h1;cases h1
    ·exact h1
   subst hτ2;exact Nk.qk (.wop o u V e ho (by rw[hyx.symm.wants];exact hw) (by rw[hyx.symm.aop fr _ e];exact ha) hI' (hq.feq hZ (Feq.swap hyx.dd)))
theorem Qk.next(hZ:∀F F' V,Feq F F'->Z F V->Z F' V)(x:jd)(s1 s2:List jd)(fr:Fr)(G:jb)(hap:∀y∈s1,zal y x)(hcm:∀y∈s1,∃o,zp P fz nt ops o=some y)(hnc:x.op.writes=true->∀y∈s1,y.op.writes=false)(hl:Live nt fr G)(h:I G/\Qk P I Z (s1++x::s2) fr G):Nx P (λF V=>I V/\Qk P I Z (s1++s2) F V) x fr G:=by
 cases Qk.ahead hZ s1 h.1 hap hnc h.2 with
 |op o v e hw ha hn=>exact .op o v G e hw (ha G h.1) hn
 |no hw hn=>exact .no hw hn
 |call f args n pre cap vs r e hw hf hargs hok hn=>exact .call f args n pre cap vs _ e hw hf hargs (hok G h.1) λr' V' hq=>by obtain⟨rfl,rfl⟩:=hq;exact hn
 |wop o v G' e ho hw ha hI' hn=>exact .op o v G' e hw ha hn

theorem ji7(h:stOk ms p seg=true)(k k':Nat)(hk:k<seg.length)(hk':k'<seg.length)(hlt:k<k')(hc:AO.clash seg[k].op seg[k'].op=true):(zbx ms (p+k') (ms.getD (p+k') 0)).testBit (p+k)=true:=by
 unfold stOk at h;simp only[List.all_eq_true,Bool.or_eq_true]at h;rcases h (p+k,seg[k]) (zm.2 ⟨k,hk,rfl,rfl⟩) (p+k',seg[k']) (zm.2 ⟨k',hk',rfl,rfl⟩)with(h1|h1)|h1
 ·simp at h1;omega
 ·simp only at h1;rw[hc]at h1;cases h1
 ·exact h1
theorem Qw.feq(hZ:∀F F' V,Feq F F'->Z F V->Z F' V){seg:List jd}{fr:Fr}{G:jb}(h:Qw P Z seg fr G):∀{fr'},Feq fr fr'->Qw P Z seg fr' G:=by
 induction h with
 |nil h=>exactλhe=>.nil (hZ _ _ _ he h)
 |op hw ha _ ih=>exactλhe=>.op (by rw[<-jq λt _ _=>he t];exact hw) (λV=>by rw[<-wam λt _=>he t];exact ha V) (ih (he.put _ _))
 |no hw _ ih=>exactλhe=>.no (by rw[<-jq λt _ _=>he t];exact hw) (ih (he.put _ _))
 |rd ho hw ha _ ih=>exactλhe=>.rd ho (by rw[<-jq λt _ _=>he t];exact hw) (by rw[<-wam λt _=>he t];exact ha) (ih (he.put _ _))
 |wr ho hw ha _ ih=>exactλhe=>.wr ho (by rw[<-jq λt _ _=>he t];exact hw) (by rw[<-wam λt _=>he t];exact ha) (ih (he.put _ _))
theorem Qw.mono{Z':Fr->jb->Prop}(hZ:∀F V,Z F V->Z' F V){seg:List jd}{fr:Fr}{G:jb}(h:Qw P Z seg fr G):Qw P Z' seg fr G:=by
 induction h with
 |nil h=>exact .nil (hZ _ _ h)
 |op hw ha _ ih=>exact .op hw ha ih
 |no hw _ ih=>exact .no hw ih
 |rd ho hw ha _ ih=>exact .rd ho hw ha ih
 |wr ho hw ha _ ih=>exact .wr ho hw ha ih
inductive Nz(P:Program)(N:Fr->jb->Prop)(x:jd)(fr:Fr)(G:jb):Prop where
 |op (o:AOp) (v:AV):x.op=.op o->wants fr x.guard=some true->(∀V,aop o fr V=some (v,V))->N (putA fr x.dst v) G->Nz P N x fr G
 |no:wants fr x.guard=some false->N (putA fr x.dst (.tup [])) G->Nz P N x fr G
 |rd (o:AOp) (v:AV):x.op=.op o->o.touches=true->wants fr x.guard=some true->aop o fr G=some (v,G)->N (putA fr x.dst v) G->Nz P N x fr G
 |wr (o:AOp) (v:AV) (G':jb):x.op=.op o->o.stores=true->wants fr x.guard=some true->aop o fr G=some (v,G')->N (putA fr x.dst v) G'->Nz P N x fr G
theorem Qw.now(h:Qw P Z (x::rest) fr G):Nz P (Qw P Z rest) x fr G:=by
 cases h with
 |op hw ha h=>exact .op _ _ rfl hw ha h
 |no hw h=>exact .no hw h
 |rd ho hw ha h=>exact .rd _ _ rfl ho hw ha h
 |wr ho hw ha h=>exact .wr _ _ _ rfl ho hw ha h
theorem Nz.qw{Z:Fr->jb->Prop}{x:jd}{rest:List jd}{fr:Fr}{G:jb}(h:Nz P (Qw P Z rest) x fr G):Qw P Z (x::rest) fr G:=by
 obtain⟨d,op,g⟩:=x
 cases h with
 |op o v e hw ha h=>simp only at e;subst e;exact .op hw ha h
 |no hw h=>exact .no hw h
 |rd o v e ho hw ha h=>simp only at e;subst e;exact .rd ho hw ha h
 |wr o v G' e ho hw ha h=>simp only at e;subst e;exact .wr ho hw ha h
theorem zfn{o:AOp}(h:o.stores=true):o.touches=true:=by
 cases o<;>first|rfl|cases h
theorem Qw.ahead{Z:Fr->jb->Prop}(hZ:∀F F' V,Feq F F'->Z F V->Z F' V){x:jd}{s2:List jd}:∀(s1:List jd) {fr:Fr} {G:jb},(∀y∈s1,zal y x)->(∀y∈s1,AO.clash y.op x.op=false)->Qw P Z (s1++x::s2) fr G->Nz P (Qw P Z (s1++s2)) x fr G
 |[],fr,G,_,_,h=>h.now
 |y::s1,fr,G,hap,hnc,h=>by
  have hyx:=hap y gx;have hcl:=hnc y gx;have hap':∀z∈s1,zal z x:=λz hz=>hap z (by simp[hz]);have hnc':∀z∈s1,AO.clash z.op x.op=false:=λz hz=>hnc z (by simp[hz])
  cases Qw.now h with
  |op o u e hw ha hn=>
   have back:∀{w V},Qw P Z (s1++s2) (putA (putA fr y.dst u) x.dst w) V->Qw P Z (y::(s1++s2)) (putA fr x.dst w) V:=λ{w V} hq=>
    Nz.qw (.op o u e (by rw[hyx.symm.wants];exact hw) (λV=>by rw[hyx.symm.aop fr _ e];exact ha V) (hq.feq hZ (Feq.swap hyx.dd)))
   cases Qw.ahead hZ s1 hap' hnc' hn with
   |op o' v e' hw' ha' hn'=>exact .op o' v e' (by rw[<-hyx.wants fr u];exact hw') (λV=>by rw[<-hyx.aop fr u e'];exact ha' V) (back hn')
   |no hw' hn'=>exact .no (by rw[<-hyx.wants fr u];exact hw') (back hn')
   |rd o' v e' ho' hw' ha' hn'=>exact .rd o' v e' ho' (by rw[<-hyx.wants fr u];exact hw') (by rw[<-hyx.aop fr u e'];exact ha') (back hn')
   |wr o' v G' e' ho' hw' ha' hn'=>exact .wr o' v G' e' ho' (by rw[<-hyx.wants fr u];exact hw') (by rw[<-hyx.aop fr u e'];exact ha') (back hn')
  |no hw hn=>
   have back:∀{w V},Qw P Z (s1++s2) (putA (putA fr y.dst (.tup [])) x.dst w) V->Qw P Z (y::(s1++s2)) (putA fr x.dst w) V:=λ{w V} hq=>
    Nz.qw (.no (by rw[hyx.symm.wants];exact hw) (hq.feq hZ (Feq.swap hyx.dd)))
   cases Qw.ahead hZ s1 hap' hnc' hn with
   |op o' v e' hw' ha' hn'=>exact .op o' v e' (by rw[<-hyx.wants fr (.tup [])];exact hw') (λV=>by rw[<-hyx.aop fr (.tup []) e'];exact ha' V) (back hn')
   |no hw' hn'=>exact .no (by rw[<-hyx.wants fr (.tup [])];exact hw') (back hn')
   |rd o' v e' ho' hw' ha' hn'=>exact .rd o' v e' ho' (by rw[<-hyx.wants fr (.tup [])];exact hw') (by rw[<-hyx.aop fr (.tup []) e'];exact ha') (back hn')
   |wr o' v G' e' ho' hw' ha' hn'=>exact .wr o' v G' e' ho' (by rw[<-hyx.wants fr (.tup [])];exact hw') (by rw[<-hyx.aop fr (.tup []) e'];exact ha') (back hn')
  |rd o u e ho hw ha hn=>
   have back:∀{w},Qw P Z (s1++s2) (putA (putA fr y.dst u) x.dst w) G->Qw P Z (y::(s1++s2)) (putA fr x.dst w) G:=λ{w} hq=>
    Nz.qw (.rd o u e ho (by rw[hyx.symm.wants];exact hw) (by rw[hyx.symm.aop fr _ e];exact ha) (hq.feq hZ (Feq.swap hyx.dd)))
   cases Qw.ahead hZ s1 hap' hnc' hn with
   |op o' v e' hw' ha' hn'=>exact .op o' v e' (by rw[<-hyx.wants fr u];exact hw') (λV=>by rw[<-hyx.aop fr u e'];exact ha' V) (back hn')
   |no hw' hn'=>exact .no (by rw[<-hyx.wants fr u];exact hw') (back hn')
   |rd o' v e' ho' hw' ha' hn'=>exact .rd o' v e' ho' (by rw[<-hyx.wants fr u];exact hw') (by rw[<-hyx.aop fr u e'];exact ha') (back hn')
   |wr o' v G' e' ho' hw' ha' hn'=>
    exfalso;rw[e,e',AO.clash,show AO.touches (.op o)=o.touches from rfl,show AO.stores (.op o')=o'.stores from rfl,ho,ho',Bool.and_self,Bool.or_true]at hcl
    cases hcl
  |wr o u G1 e ho hw ha hn=>
   have back:∀{w},Qw P Z (s1++s2) (putA (putA fr y.dst u) x.dst w) G1->Qw P Z (y::(s1++s2)) (putA fr x.dst w) G:=λ{w} hq=>
    Nz.qw (.wr o u G1 e ho (by rw[hyx.symm.wants];exact hw) (by rw[hyx.symm.aop fr _ e];exact ha) (hq.feq hZ (Feq.swap hyx.dd)))
   have no:∀{o':AOp},x.op=.op o'->o'.touches=true->False:=λ{o'} e' ht=>by
    rw[e,e',AO.clash,show AO.stores (.op o)=o.stores from rfl,show AO.touches (.op o')=o'.touches from rfl,ho,ht,Bool.and_self,Bool.true_or]at hcl
    cases hcl
   cases Qw.ahead hZ s1 hap' hnc' hn with
   |op o' v e' hw' ha' hn'=>exact .op o' v e' (by rw[<-hyx.wants fr u];exact hw') (λV=>by rw[<-hyx.aop fr u e'];exact ha' V) (back hn')
   |no hw' hn'=>exact .no (by rw[<-hyx.wants fr u];exact hw') (back hn')
   |rd o' v e' ho' hw' ha' hn'=>exact(no e' ho').elim
   |wr o' v G' e' ho' hw' ha' hn'=>exact(no e' (zfn ho')).elim
theorem Qw.next(hZ:∀F F' V,Feq F F'->Z F V->Z F' V)(x:jd)(s1 s2:List jd)(fr:Fr)(G:jb)(hap:∀y∈s1,zal y x)(hcm:∀y∈s1,∃o,zp P fz nt ops o=some y)(hnc:∀y∈s1,AO.clash y.op x.op=false)(hl:Live nt fr G)(h:Qw P Z (s1++x::s2) fr G):Nx P (Qw P Z (s1++s2)) x fr G:=by
 cases Qw.ahead hZ s1 hap hnc h with
 |op o v e hw ha hn=>exact .op o v G e hw (ha G) hn
 |no hw hn=>exact .no hw hn
 |rd o v e ho hw ha hn=>exact .op o v G e hw ha hn
 |wr o v G' e ho hw ha hn=>exact .op o v G' e hw ha hn

end

section
variable {P:Program}{ops:Array Oper}{α β:Type}{S:α->β->jb}{I:β->Prop}
theorem Qx.feq{Z:Fr->α->β->Prop}(hZ:∀F F' a b,Feq F F'->Z F a b->Z F' a b){seg:List jd}{fr:Fr}{a:α}{b:β}(h:Qx P S I Z seg fr a b):∀{fr'},Feq fr fr'->Qx P S I Z seg fr' a b:=by
 induction h with
 |nil h=>exactλhe=>.nil (hZ _ _ _ _ he h)
 |op hw ha _ ih=>exactλhe=>.op (by rw[<-jq λt _ _=>he t];exact hw) (λa b hb=>by rw[<-wam λt _=>he t];exact ha a b hb) (ih (he.put _ _))
 |no hw _ ih=>exactλhe=>.no (by rw[<-jq λt _ _=>he t];exact hw) (ih (he.put _ _))
 |call Q hw hf hargs hok _ ih=>exactλhe=>.call Q (by rw[<-jq λt _ _=>he t];exact hw) (by rw[<-Opd.ev_congr λt _=>he t];exact hf) (by rw[<-wbk λt _=>he t];exact hargs) hok λr a' hq=>ih r a' hq (he.put _ _)
 |wop ho hw ha hI _ ih=>exactλhe=>.wop ho (by rw[<-jq λt _ _=>he t];exact hw) (λa=>by rw[<-wam λt _=>he t];exact ha a) hI (ih (he.put _ _))
theorem Qx.mono{Z Z':Fr->α->β->Prop}(hZ:∀F a b,Z F a b->Z' F a b){seg:List jd}{fr:Fr}{a:α}{b:β}(h:Qx P S I Z seg fr a b):Qx P S I Z' seg fr a b:=by
 induction h with
 |nil h=>exact .nil (hZ _ _ _ h)
 |op hw ha _ ih=>exact .op hw ha ih
 |no hw _ ih=>exact .no hw ih
 |call Q hw hf hargs hok _ ih=>exact .call Q hw hf hargs hok ih
 |wop ho hw ha hI _ ih=>exact .wop ho hw ha hI ih
inductive Ny(P:Program){α β:Type}(S:α->β->jb)(I:β->Prop)(N:Fr->α->β->Prop)(x:jd)(fr:Fr)(a:α)(b:β):Prop where
 |op (o:AOp) (v:AV):x.op=.op o->wants fr x.guard=some true->(∀a b,I b->aop o fr (S a b)=some (v,S a b))->N (putA fr x.dst v) a b->Ny P S I N x fr a b
 |no:wants fr x.guard=some false->N (putA fr x.dst (.tup [])) a b->Ny P S I N x fr a b
 |call (f:Opd) (args:List Opd) (n:Nat) (pre cap:List Ce) (vs:List AV) (Q:AV->α->Prop):x.op=.call f args->wants fr x.guard=some true->f.ev fr=some (.c (.fn n pre cap))->evs fr args=some vs->
  (∀b,I b->Ok P n (pre.map .c++vs++cap.map .c) (S a b) (λr V=>∃a',Q r a'/\V=S a' b))->(∀r a',Q r a'->N (putA fr x.dst r) a' b)->Ny P S I N x fr a b
 |wop (o:AOp) (v:AV) (b':β):x.op=.op o->o.writes=true->wants fr x.guard=some true->(∀a,aop o fr (S a b)=some (v,S a b'))->I b'->N (putA fr x.dst v) a b'->Ny P S I N x fr a b
variable {x:jd}
theorem Qx.now{Z:Fr->α->β->Prop}{rest:List jd}{a:α}{b:β}(h:Qx P S I Z (x::rest) fr a b):Ny P S I (Qx P S I Z rest) x fr a b:=by
 cases h with
 |op hw ha h=>exact .op _ _ rfl hw ha h
 |no hw h=>exact .no hw h
 |call Q hw hf hargs hok h=>exact .call _ _ _ _ _ _ Q rfl hw hf hargs hok h
 |wop ho hw ha hI h=>exact .wop _ _ _ rfl ho hw ha hI h
theorem Ny.qx{Z:Fr->α->β->Prop}{x:jd}{rest:List jd}{fr:Fr}{a:α}{b:β}(h:Ny P S I (Qx P S I Z rest) x fr a b):Qx P S I Z (x::rest) fr a b:=by
 obtain⟨d,op,g⟩:=x
 cases h with
 |op o v e hw ha h=>simp only at e;subst e;exact .op hw ha h
 |no hw h=>exact .no hw h
 |call f args n pre cap vs Q e hw hf hargs hok h=>simp only at e;subst e;exact .call Q hw hf hargs hok h
 |wop o v b' e ho hw ha hI h=>simp only at e;subst e;exact .wop ho hw ha hI h
theorem Qx.callAhead{Z:Fr->α->β->Prop}(hZ:∀F F' a b,Feq F F'->Z F a b->Z F' a b){x:jd}{s2:List jd}(hx:x.op.isCall=true):∀(s1:List jd) {fr:Fr} {a:α} {b:β},I b->(∀y∈s1,zal y x)->(∀y∈s1,y.op.isCall=false)->Qx P S I Z (s1++x::s2) fr a b->
 Ny P S I (Qx P S I Z (s1++s2)) x fr a b
 |[],fr,a,b,_,_,_,h=>h.now
 |y::s1,fr,a,b,hI,hap,hc,h=>by
  have hyx:=hap y gx;have hap':∀z∈s1,zal z x:=λz hz=>hap z (by simp[hz]);have hc':∀z∈s1,z.op.isCall=false:=λz hz=>hc z (by simp[hz]);have key:∀{u b1},I b1->Qx P S I Z (s1++x::s2) (putA fr y.dst u) a b1->(∀{w a'},Qx P S I Z (s1++s2) (putA (putA fr y.dst u) x.dst w) a' b1->Qx P S I Z (y::(s1++s2)) (putA fr x.dst w) a' b)->Ny P S I (Qx P S I Z (y::(s1++s2))) x fr a b:=by
   intro u b1 hI1 hq hback
   cases Qx.callAhead hZ hx s1 hI1 hap' hc' hq with
   |op o w e hw ha hn=>rw[e]at hx;cases hx
   |no hw hn=>exact .no (by rw[<-hyx.wants fr u];exact hw) (hback hn)
   |call f args n pre cap vs Q e hw hf hargs hok hn=>exact .call f args n pre cap vs Q e (by rw[<-hyx.wants fr u];exact hw) (by rw[<-hyx.ev fr u e];exact hf) (by rw[<-hyx.evs fr u e];exact hargs) hok λr a' hqq=>hback (hn r a' hqq)
   |wop o w b' e ho hw ha hI' hn=>rw[e]at hx;cases hx
  cases Qx.now h with
  |op o u e hw ha hn=>exact key hI hn λhq=>Ny.qx (.op o u e (by rw[hyx.symm.wants];exact hw) (λa b hb=>by rw[hyx.symm.aop fr _ e];exact ha a b hb) (hq.feq hZ (Feq.swap hyx.dd)))
  |no hw hn=>exact key hI hn λhq=>Ny.qx (.no (by rw[hyx.symm.wants];exact hw) (hq.feq hZ (Feq.swap hyx.dd)))
  |call f args n pre cap vs Q e=>have:=hc y gx;rw[e]at this;cases this
  |wop o u b' e ho hw ha hI' hn=>exact key hI' hn λhq=>Ny.qx (.wop o u b' e ho (by rw[hyx.symm.wants];exact hw) (λa=>by rw[hyx.symm.aop fr _ e];exact ha a) hI' (hq.feq hZ (Feq.swap hyx.dd)))
def Eff(S:α->β->jb)(x:jd)(fr:Fr)(v:AV)(b b1:β):Prop:=(∃o,x.op=.op o/\Am.wants fr x.guard=some true/\∀a,aop o fr (S a b)=some (v,S a b1))\/(Am.wants fr x.guard=some false/\v=.tup []/\b1=b)
theorem Eff.put{y:jd}{v u:AV}{b b1:β}(hyx:zal y x):Eff S x (putA fr y.dst u) v b b1↔Eff S x fr v b b1:=by
 constructor
 ·rintro(⟨o,e,hw,ha⟩|⟨hw,h1,h2⟩)
  ·exact .inl ⟨o,e,by rw[<-hyx.wants fr u];exact hw,λa=>by rw[<-hyx.aop fr u e];exact ha a⟩
  ·exact .inr ⟨by rw[<-hyx.wants fr u];exact hw,h1,h2⟩
 ·rintro(⟨o,e,hw,ha⟩|⟨hw,h1,h2⟩)
  ·exact .inl ⟨o,e,by rw[hyx.wants];exact hw,λa=>by rw[hyx.aop fr u e];exact ha a⟩
  ·exact .inr ⟨by rw[hyx.wants];exact hw,h1,h2⟩
structure Kn(S:α->β->jb)(I:β->Prop)(x:jd)(fr:Fr)(v:AV)(f:β->β)(b:β):Prop where
 eff:∀b',I b'->(b'=b\/x.op.writes=false)->I (f b')/\Eff S x fr v b' (f b')
 id_:x.op.writes=false->∀b',f b'=b'
theorem Kn.put{y:jd}{v u:AV}{f:β->β}{b:β}(hyx:zal y x):Kn S I x (putA fr y.dst u) v f b↔Kn S I x fr v f b:=
 ⟨λh=>⟨λb' hb hor=>⟨(h.eff b' hb hor).1,(Eff.put hyx).1 (h.eff b' hb hor).2⟩,h.id_⟩,λh=>⟨λb' hb hor=>⟨(h.eff b' hb hor).1,(Eff.put hyx).2 (h.eff b' hb hor).2⟩,h.id_⟩⟩
theorem Kn.at_{v:AV}{f:β->β}{b b1:β}(h:Kn S I x fr v f b)(hx:x.op.writes=false):Kn S I x fr v f b1:=⟨λb' hb _=>h.eff b' hb (.inr hx),h.id_⟩
theorem Qx.ahead{Z:Fr->α->β->Prop}(hZ:∀F F' a b,Feq F F'->Z F a b->Z F' a b)(inj:∀a b b',S a b=S a b'->b=b'){x:jd}{s2:List jd}{v:AV}{f:β->β}(hx:x.op.isCall=false):∀(s1:List jd) {fr:Fr} {a:α} {b:β},I b->(∀y∈s1,zal y x)->(x.op.writes=true->∀y∈s1,y.op.writes=false)->
 Kn S I x fr v f b->Qx P S I Z (s1++x::s2) fr a b->Qx P S I Z (s1++s2) (putA fr x.dst v) a (f b)
 |[],fr,a,b,hI,_,_,hk,h=>by
  have he:=(hk.eff b hI (.inl rfl)).2
  cases h.now with
  |op o v' e hw ha hn=>
   rcases he with⟨o2,e2,hw2,ha2⟩|⟨hw2,_⟩
   ·rw[e]at e2;injection e2 with e2;subst e2;have h1:=ha2 a;rw[ha a b hI]at h1;injection h1 with h1;injection h1 with h1 h2;rw[<-inj a b _ h2,<-h1];exact hn
   ·rw[hw]at hw2;cases hw2
  |no hw hn=>
   rcases he with⟨o2,e2,hw2,ha2⟩|⟨hw2,h1,h2⟩
   ·rw[hw]at hw2;cases hw2
   ·rw[h1,h2];exact hn
  |call g args n pre cap vs Q e=>rw[e]at hx;cases hx
  |wop o v' b' e ho hw ha hI' hn=>
   rcases he with⟨o2,e2,hw2,ha2⟩|⟨hw2,_⟩
   ·rw[e]at e2;injection e2 with e2;subst e2;have h1:=ha2 a;rw[ha a]at h1;injection h1 with h1;injection h1 with h1 h2;rw[<-inj a b' _ h2,<-h1];exact hn
   ·rw[hw]at hw2;cases hw2
 |y::s1,fr,a,b,hI,hap,hnw,hk,h=>by
  have hyx:=hap y gx;have hap':∀z∈s1,zal z x:=λz hz=>hap z (by simp[hz]);have hnw':x.op.writes=true->∀z∈s1,z.op.writes=false:=λhw z hz=>hnw hw z (by simp[hz]);have hIf:=(hk.eff b hI (.inl rfl)).1;refine Ny.qx ?_
  cases Qx.now h with
  |op o u e hw ha hn=>exact .op o u e (by rw[hyx.symm.wants];exact hw) (λa b hb=>by rw[hyx.symm.aop fr v e];exact ha a b hb) ((Qx.ahead hZ inj hx s1 hI hap' hnw' ((Kn.put hyx).2 hk) hn).feq hZ (Feq.swap hyx.dd))
  |no hw hn=>exact .no (by rw[hyx.symm.wants];exact hw) ((Qx.ahead hZ inj hx s1 hI hap' hnw' ((Kn.put hyx).2 hk) hn).feq hZ (Feq.swap hyx.dd))
  |call g args n pre cap vs Q e hw hf hargs hok hn=>exact .call g args n pre cap vs Q e (by rw[hyx.symm.wants];exact hw) (by rw[hyx.symm.ev fr v e];exact hf) (by rw[hyx.symm.evs fr v e];exact hargs) hok λr a' hq=>(Qx.ahead hZ inj hx s1 hI hap' hnw' ((Kn.put hyx).2 hk) (hn r a' hq)).feq hZ (Feq.swap hyx.dd)
  |wop o u b' e ho hw ha hI' hn=>
   have hxw:x.op.writes=false:=by
    cases hx2:x.op.writes with
    |false=>rfl
    |true=>
     have:=hnw hx2 y gx;rw[e]at this;rw[show AO.writes (.op o)=o.writes from rfl,ho]at this
     cases this
   have hq:=Qx.ahead hZ inj hx s1 hI' hap' hnw' ((Kn.put hyx).2 (hk.at_ hxw)) hn;rw[hk.id_ hxw b']at hq;rw[hk.id_ hxw b];exact .wop o u b' e ho (by rw[hyx.symm.wants];exact hw) (λa=>by rw[hyx.symm.aop fr v e];exact ha a) hI' (hq.feq hZ (Feq.swap hyx.dd))
theorem Qx.valid{fz:List Nat}{nt:Nat}{Z:Fr->α->β->Prop}{x:jd}{s2:List jd}(hx:x.op.isCall=false):∀(s1:List jd) {fr:Fr} {a:α} {b:β},I b->(∀y∈s1,zal y x)->(x.op.writes=true->∀y∈s1,y.op.writes=false)->(∀y∈s1,∃o,zp P fz nt ops o=some y)->Live nt fr (S a b)->Qx P S I Z (s1++x::s2) fr a b->
 ∃v f,Kn S I x fr v f b
 |[],fr,a,b,hI,_,_,_,_,h=>by
  cases h.now with
  |op o v e hw ha hn=>exact⟨v,λb=>b,⟨λb' hb _=>⟨hb,.inl ⟨o,e,hw,λa=>ha a b' hb⟩⟩,λ_ _=>rfl⟩⟩
  |no hw hn=>exact⟨_,λb=>b,⟨λb' hb _=>⟨hb,.inr ⟨hw,rfl,rfl⟩⟩,λ_ _=>rfl⟩⟩
  |call g args n pre cap vs Q e=>rw[e]at hx;cases hx
  |wop o v b' e ho hw ha hI' hn=>
   have hxw:x.op.writes=true:=by rw[e];exact ho
   refine⟨v,λ_=>b',⟨λb2 hb hor=>?_,λh2=>by rw[hxw]at h2;cases h2⟩⟩;rcases hor with rfl|h2
   ·exact⟨hI',.inl ⟨o,e,hw,ha⟩⟩
   ·rw[hxw]at h2;cases h2
 |y::s1,fr,a,b,hI,hap,hnw,hcm,⟨C,a0,hR,hF⟩,h=>by
  have hyx:=hap y gx;have hap':∀z∈s1,zal z x:=λz hz=>hap z (by simp[hz]);have hnw':x.op.writes=true->∀z∈s1,z.op.writes=false:=λhw z hz=>hnw hw z (by simp[hz]);have hcm':∀z∈s1,∃o,zp P fz nt ops o=some z:=λz hz=>hcm z (by simp[hz]);obtain⟨oo,hco⟩:=hcm y gx;have hnwy:=hnw;have back:∀{u a' b1},I b1->(b1=b\/x.op.writes=false)->Live nt (putA fr y.dst u) (S a' b1)->Qx P S I Z (s1++x::s2) (putA fr y.dst u) a' b1->∃v f,Kn S I x fr v f b:=by
   intro u a' b1 hI1 hor hl hq;obtain⟨v,f,hk⟩:=Qx.valid hx s1 hI1 hap' hnw' hcm' hl hq;refine⟨v,f, ?_⟩;have hk2:=(Kn.put hyx).1 hk;rcases hor with rfl|hw
   ·exact hk2
   ·exact hk2.at_ hw
  obtain⟨d,op,g⟩:=y
  cases Qx.now h with
  |op o u e hw ha hn=>
   simp only at e;subst e;obtain⟨w1,w2,w3,fzb,w4⟩:=j7 hco hF hw;simp only at w3 w4;obtain⟨D,q,hR',hle,hxx,hrun⟩:=zdj w4 (ha a b hI) hR hF;refine back (u:=u) (a':=a) hI (.inl rfl) ⟨D,a0.put oo.dst q,hR', ?_⟩ hn;rw[w3];exact(hF.mono hle).putA (λt e=>w2 t (w3.trans e)) hxx
  |no hw hn=>
   obtain⟨w1,w2,w3,fzb,w4⟩:=j7 hco hF hw;simp only at w3 w4;refine back (a':=a) hI (.inl rfl) ⟨C,a0.put oo.dst undef,hR, ?_⟩ hn;rw[w3];exact hF.putA (λt e=>w2 t (w3.trans e)) (.tup rfl λi hi=>by simp at hi)
  |call f args n pre cap vs Q e hw hf hargs hok hn=>
   simp only at e;subst e;obtain⟨w1,w2,w3,fzb,w4⟩:=j7 hco hF hw;simp only at w3 w4;obtain⟨D,a',r,G',⟨a1,hq,rfl⟩,hRD,hFD⟩:=jg1 w4 w2 w3 hf hargs (hok b hI) hF hR;exact back hI (.inl rfl) ⟨D,a',hRD,hFD⟩ (hn r a1 hq)
  |wop o u b' e ho hw ha hI' hn=>
   simp only at e;subst e;have hxw:x.op.writes=false:=by
    cases hx2:x.op.writes with
    |false=>rfl
    |true=>
     have:=hnwy hx2 _ (List.mem_cons_self ..);rw[show AO.writes (.op o)=o.writes from rfl,ho]at this
     cases this
   obtain⟨w1,w2,w3,fzb,w4⟩:=j7 hco hF hw;simp only at w3 w4;obtain⟨D,q,hR',hle,hxx,hrun⟩:=zdj w4 (ha a) hR hF;refine back (u:=u) (a':=a) hI' (.inr hxw) ⟨D,a0.put oo.dst q,hR', ?_⟩ hn;rw[w3];exact(hF.mono hle).putA (λt e=>w2 t (w3.trans e)) hxx
def AO.both(a b:AO):Bool:=(a.isCall&&b.isCall)||(a.writes&&b.writes)
theorem Qx.next{fz:List Nat}{nt:Nat}{Z:Fr->α->β->Prop}(hZ:∀F F' a b,Feq F F'->Z F a b->Z F' a b)(inj:∀a b b',S a b=S a b'->b=b')(x:jd)(s1 s2:List jd)(fr:Fr)(G:jb)(hap:∀y∈s1,zal y x)(hcm:∀y∈s1,∃o,zp P fz nt ops o=some y)(hnc:∀y∈s1,AO.both y.op x.op=false)(hl:Live nt fr G)(h:∃a b,G=S a b/\I b/\Qx P S I Z (s1++x::s2) fr a b):Nx P (λF V=>∃a b,V=S a b/\I b/\Qx P S I Z (s1++s2) F a b) x fr G:=by
 obtain⟨a,b,rfl,hI,h⟩:=h
 cases hcall:x.op.isCall with
 |false=>
  have hnw:x.op.writes=true->∀y∈s1,y.op.writes=false:=λhw y hy=>by
   have:=hnc y hy;rw[AO.both,hw,hcall,ybj,ybu,Bool.and_true]at this;exact this
  obtain⟨v,f,hk⟩:=Qx.valid hcall _ hI hap hnw hcm hl h;have hn:=Qx.ahead hZ inj hcall _ hI hap hnw hk h;obtain⟨hIf,he⟩:=hk.eff b hI (.inl rfl);rcases he with⟨o,e,hw,ha⟩|⟨hw,h1,h2⟩
  ·exact .op o v _ e hw (ha a) ⟨a,f b,rfl,hIf,hn⟩
  ·subst h1;rw[h2]at hn;exact .no hw ⟨a,b,rfl,hI,hn⟩
 |true=>
  have hnc2:∀y∈s1,y.op.isCall=false:=λy hy=>by
   have:=hnc y hy;rw[AO.both,hcall,Bool.and_true]at this;exact(Bool.or_eq_false_iff.1 this).1
  cases Qx.callAhead hZ hcall _ hI hap hnc2 h with
  |op o v e=>rw[e]at hcall;cases hcall
  |no hw hn=>exact .no hw ⟨a,b,rfl,hI,hn⟩
  |call f args m pre cap vs Q' e hw hf hargs hok hn=>exact .call f args m pre cap vs _ e hw hf hargs (hok b hI) λr V ⟨a',hq,e2⟩=>⟨a',b,e2,hI,hn r a' hq⟩
  |wop o v b' e=>rw[e]at hcall;cases hcall
end
end Go.Proofs.YtedaadaaibofaaaGreat.Am
namespace Go.Proofs.YtedaadaaibofaaaGreat.Am
open Go.RowKit

inductive SR(P:Program)(fz:List Nat)(nt:Nat)(ops:Array Oper)(ms:List Nat):Nat->List (List jd)->Prop where
 |nil {p} (e:p=ops.size):SR P fz nt ops ms p []
 |cons {p s r} (ne:s≠[]) (h:∀k (h:k<s.length),∃o,ops[p+k]?=some o/\zp P fz nt ops o=some s[k]) (cut:p+s.length<ops.size->zgb (wbz ms) (p+s.length)=true) (hr:SR P fz nt ops ms (p+s.length) r):SR P fz nt ops ms p (s::r)
variable {P:Program}{fz ms:List Nat}{nt p:Nat}{ops:Array Oper}
theorem SR.le{l:List (List jd)}(h:SR P fz nt ops ms p l):p<=ops.size:=by
 induction h with
 |nil e=>omega
 |cons _ _ _ _ ih=>omega
theorem zg2{P:Program}{fz:List Nat}{nt:Nat}{ops:Array Oper}{ms:List Nat}:∀{l:List jd} {q:Nat},(∀k (h:k<l.length),∃o,ops[q+k]?=some o/\zp P fz nt ops o=some l[k])->q+l.length=ops.size->SR P fz nt ops ms q (jfz (wbz ms) q l)
 |[],q,h,hq=>by
  simp only[jfz];simp at hq;exact .nil hq
 |o::r,q,h,hq=>by
  have ih:=zg2 (P:=P) (fz:=fz) (nt:=nt) (ops:=ops) (ms:=ms) (l:=r) (q:=q+1) (λk hk=>by
   have:=h (k+1) gq;rw[show q+1+k=q+(k+1) by omega];simpa using this) (by simp at hq;omega)
  have h0:=h 0 gx;simp only[jfz];split
  ·rename_i s ss hc hs;rw[hs]at ih
   cases ih with
   |cons ne h' cut hr=>
    refine .cons gx (λk hk=>?_) (λhlt=>?_) ?_
    ·cases k with
     |zero=>exact h0
     |succ k=>
      have:=h' k (by simpa using hk);rw[show q+(k+1)=q+1+k by omega];simpa using this
    ·have:=cut (by simp at hlt;omega);rw[show q+(o::s).length=q+1+s.length by simp;omega];exact this
    ·rw[show q+(o::s).length=q+1+s.length by simp;omega];exact hr
  ·rename_i ss hne;refine .cons gx (λk hk=>?_) (λhlt=>?_) ih
   ·have:k=0:=by simpa using hk
    subst this;exact h0
   ·cases hb:zgb (wbz ms) (q+1)with
    |true=>rfl
    |false=>
     cases hs:jfz (wbz ms) (q+1) r with
     |cons s ss=>exact absurd hs (hne s ss hb)
     |nil=>
      rw[hs]at ih;have:q+1=ops.size:=by
       cases ih
       assumption
      simp at hlt;omega
theorem wd8{P:Program}{fz:List Nat}{nt:Nat}{ops:Array Oper}:∀{l:List Oper} {as:List jd},waq P fz nt ops l=some as->as.length=l.length/\∀k (h:k<as.length) (h':k<l.length),zp P fz nt ops l[k]=some as[k]
 |[],as,h=>by
  simp[waq]at h;subst h;exact⟨rfl,λk hk=>by simp at hk⟩
 |o::l,as,h=>by
  simp only[waq]at h;split at h
  ·rename_i x l' h1 h2;injection h with h;subst h;obtain⟨q1,q2⟩:=wd8 h2;refine⟨by simp[q1],λk hk hk'=>?_⟩
   cases k with
   |zero=>exact h1
   |succ k=>exact q2 k (by simpa using hk) (by simpa using hk')
  ·cases h
theorem wb7{l:List jd}{c:AC}(hl:waq P fz nt ops ops.toList=some l)(h:jgb l (ops.toList.map wgz)=some c):
 ∃ms segs,c=.draw segs/\Aft ops ms/\SR P fz nt ops ms 0 segs/\wce ms 0 segs=true:=by
 unfold jgb at h;simp only at h;split at h
 ·rename_i hc;injection h with h;subst h;rw[yau]at hc;obtain⟨h1,h2⟩:=hc;obtain⟨q1,q2⟩:=wd8 hl;have hbit:∀i o,ops[i]?=some o->∀j,((((ops.toList.map wgz).map zg0).getD i 0).testBit j=true↔j∈wgz o):=by
   intro i o ho j;obtain⟨hi,rfl⟩:=Array.getElem?_eq_some_iff.1 ho;rw[List.getD_eq_getElem?_getD];simp[hi,zc7]
  refine⟨_,_,rfl,⟨gx,hbit,λi j hj=>?_⟩,zg2 (λk hk=>?_) (by simp[q1]),h1⟩
  ·by_cases hi:i<ops.size
   ·have:=(hbit i ops[i] (by simp[hi]) j).1 hj;rw[List.all_eq_true]at h2;have h3:=h2 (i,wgz ops[i]) (zm.2 ⟨i,by simp[hi],gx,gx⟩);rw[List.all_eq_true]at h3;simpa using h3 j this
   ·rw[List.getD_eq_getElem?_getD]at hj;simp[Nat.not_lt.1 hi]at hj
  ·have hk':k<ops.size:=by simpa [q1]using hk
   exact⟨ops[k],by simp[hk'],by have:=q2 k hk (by simpa using hk');rw[Array.getElem_toList]at this;exact this⟩
 ·cases h
theorem zb0{seg:List jd}(h:wkx ms p seg=true)(h2:2<=seg.length):
 (∀k k' (h:k<seg.length) (h':k'<seg.length) d,k≠k'->seg[k].dst=some d->seg[k'].dst≠some d)/\
 ∀k k' (h:k<seg.length) (h':k'<seg.length) t,t∈seg[k].looks->seg[k'].dst=some t->(ms.getD (p+k) 0).testBit (p+k')=true:=by
 have h:(jr p seg).all (λx=>(match x.2.dst with
  |some d=>(jr p seg).all λy=>x.1==y.1||y.2.dst !=some d
  |none=>true)&&x.2.looks.all λt=>(jr p seg).all λy=>y.2.dst !=some t||(ms.getD x.1 0).testBit y.1)=true:=by
  unfold wkx at h;split at h
  ·simp at h2
  ·exact h
 rw[List.all_eq_true]at h;refine⟨λk k' hk hk' d hne hd=>?_,λk k' hk hk' t ht hd=>?_⟩
 ·have:=h (p+k,seg[k]) (zm.2 ⟨k,hk,rfl,rfl⟩);rw[yau]at this;have h3:=this.1;simp only[hd,List.all_eq_true]at h3;have:=h3 (p+k',seg[k']) (zm.2 ⟨k',hk',rfl,rfl⟩);have e:(p+k==p+k')=false:=by simp;omega
  simp only[e,Bool.false_or]at this;simpa using this
 ·have:=h (p+k,seg[k]) (zm.2 ⟨k,hk,rfl,rfl⟩);rw[yau]at this;have h3:=this.2;simp only[List.all_eq_true]at h3;have:=h3 t ht (p+k',seg[k']) (zm.2 ⟨k',hk',rfl,rfl⟩);simp only[hd,bne_self_eq_false,Bool.false_or]at this;exact this
theorem jg2:∀{seg:List jd},(∀k k' (h:k<seg.length) (h':k'<seg.length) d,k≠k'->seg[k].dst=some d->seg[k'].dst≠some d)->
 (∀k k' (h:k<seg.length) (h':k'<seg.length) t,t∈seg[k].looks->seg[k'].dst=some t->k'<k)->wg1 seg
 |[],_,_=>trivial
 |o::r,h1,h2=>by
  refine⟨λy hy t ht hd=>?_,λd hd y hy hy'=>?_,jg2 (λk k' hk hk' d hne hd=>?_) (λk k' hk hk' t ht hd=>?_)⟩
  ·obtain⟨k',hk',rfl⟩:=List.mem_iff_getElem.1 hy;have:=h2 0 k' gx hk' t ht hd;omega
  ·obtain⟨k',hk',rfl⟩:=List.mem_iff_getElem.1 hy;exact h1 0 (k'+1) gx (by simpa using hk') d O hd (by simpa using hy')
  ·have:=h1 (k+1) (k'+1) (by simpa using hk) (by simpa using hk') d O (by simpa using hd);simpa using this
  ·have:=h2 (k+1) (k'+1) (by simpa using hk) (by simpa using hk') t (by simpa using ht) (by simpa using hd);omega

theorem jau{id:Nat}{draw:Bool}{c:AC}(h:wu P fz nt (.region id ops draw)=some c):(∃l,c=.region l)\/∃l,c=.draw l:=by
 cases draw with
 |false=>
  simp only[wu]at h;obtain⟨x,h3,h4⟩:=Option.map_eq_some_iff.1 h;exact .inl ⟨x,h4.symm⟩
 |true=>
  simp only[wu]at h;split at h
  ·rename_i l hl;obtain⟨ms,segs,e,_⟩:=wb7 hl h;exact .inr ⟨_,e⟩
  ·cases h

def Cx.drew(C:Cx):Cx:=⟨C.μ,C.F,C.M,{C.w with drawn:=C.w.drawn+1}⟩
theorem Cx.le_drew(C:Cx):C.Le C.drew:=⟨λ_ _ h=>⟨h,rfl⟩,rfl,rfl,rfl,yaf _,λ_ _ _=>rfl,λb cs t h=>⟨cs,h,rfl⟩,λ_ _ h=>h⟩
theorem Rl.drew{C:Cx}{G:jb}(h:Rl C G):Rl C.drew G:=by
 refine⟨h.F,h.live,h.M,h.inj,λid v es h1 h2=>?_⟩;obtain⟨cs,t,a,b,c,d⟩:=h.blk id v es h1 h2;refine⟨cs,t,a,b,c,λi j hi hj=>?_⟩;obtain⟨u,x,y⟩:=d i j hi hj;exact⟨u,x,y.mono C.le_drew⟩

def jih(C0:Cx)(R:AV->jb->Prop)(e:Ending)(w':World):Prop:=∃D G' r v,e=.returned v/\D.w=w'/\R r G'/\Rl D G'/\RpV D r v/\C0.Le D

def Says(P:Program)(fz:List Nat)(nt:Nat)(f:FuncId)(C0:Cx)(R:AV->jb->Prop):List AK->Fr->jb->Prop
 |.ops todo::K,fr,G=>∀(C:Cx) (a:Act) (ops:Array Oper) (is:List Nat) (L:List Item),C0.Le C->TR P fz nt ops todo is->KR P fz nt K L->FrR C nt fr a->Rl C G->
  wpOps P ops (λe a' w'=>e=.normal/\Runs P f (jih C0 R) L a' w') is a C.w
 |.segs todo::K,fr,G=>∀(C:Cx) (a:Act) (ops:Array Oper) (ms:List Nat) (p:Nat) (L:List Item),C0.Le C->Aft ops ms->SR P fz nt ops ms p todo->wce ms p todo=true->KR P fz nt K L->FrR C nt fr a->Rl C G->
  ∀(fuel:Nat) (listed:Array Bool),Upto ops.size p listed->rem ops.size listed<=fuel->wpAny P .any ops (λe a' w'=>e=.normal/\Runs P f (jih C0 R) L a' w') fuel listed a C.w
 |K,fr,G=>∀(C:Cx) (a:Act) (L:List Item),C0.Le C->KR P fz nt K L->FrR C nt fr a->Rl C G->Runs P f (jih C0 R) L a C.w

theorem zad{f:FuncId}{C0:Cx}{R:AV->jb->Prop}{K:List AK}{fr:Fr}{G:jb}(h:Says P fz nt f C0 R K fr G){C:Cx}{a:Act}{L:List Item}(le:C0.Le C)(hk:KR P fz nt K L)(hF:FrR C nt fr a)(hR:Rl C G):Runs P f (jih C0 R) L a C.w:=by
 cases hk with
 |nil=>exact h C a _ le .nil hF hR
 |code h1 h2=>exact h C a _ le (.code h1 h2) hF hR
 |blk h1=>exact h C a _ le (.blk h1) hF hR
 |lp h1 h2=>exact h C a _ le (.lp h1 h2) hF hR

theorem Go.says(hm:P.follows .mixedOrders=true){fz:List Nat}{nt:Nat}{rets:List RV}{f:FuncId}{fn:Func}(hf:P.funcs[f]?=some fn)(hr:wfz P fn.results.toList=some rets){R:AV->jb->Prop}(C0:Cx){n0:Nat}(h0:∀id v,C0.F id v->id<n0){K:List AK}{fr:Fr}{G:jb}(h:Go P n0 nt rets R K fr G):Says P fz nt f C0 R K fr G:=by
 induction h with
 |skip _ ih=>
  intro C a L le hk hF hR
  cases hk with
  |code h1 h2=>
   rename_i c' K'
   cases c'
   case region=>rcases jau h1 with⟨l,e⟩|⟨l,e⟩<;>cases e
   all_goals simp[wu]at h1
   ·exact Runs.step (λb cs=>step_skip) (zad ih le h2 hF hR)
   all_goals(split at h1<;>simp at h1)
 |seq _ ih=>
  intro C a L le hk hF hR
  cases hk with
  |code h1 h2=>
   rename_i c' K'
   cases c'
   case region=>rcases jau h1 with⟨l,e⟩|⟨l,e⟩<;>cases e
   all_goals simp only[wu]at h1
   all_goals try(simp at h1;done)
   ·split at h1
    ·rename_i e1 e2;injection h1 with h1;injection h1 with h3 h4;subst h3 h4;exact Runs.step (λb cs=>step_seq) (zad ih le (.code e1 (.code e2 h2)) hF hR)
    ·cases h1
   ·split at h1<;>simp at h1
 |cond t hc _ ih=>
  intro C a L le hk hF hR
  cases hk with
  |code h1 h2=>
   rename_i c' K'
   cases c'
   case region=>rcases jau h1 with⟨l,e⟩|⟨l,e⟩<;>cases e
   all_goals simp only[wu]at h1
   all_goals try(simp at h1;done)
   ·split at h1<;>simp at h1
   ·split at h1
    ·rename_i e1 e2 e3;injection h1 with h1;injection h1 with h3 h4 h5;subst h3 h4 h5;have hb:=zga (z7 hF e1 hc);refine Runs.step (λb cs=>step_cond hb) (zad ih le ?_ hF hR)
     cases t
     ·exact .code e3 h2
     ·exact .code e2 h2
    ·cases h1
 |block _ ih=>
  intro C a L le hk hF hR
  cases hk with
  |code h1 h2=>
   rename_i c' K'
   cases c'
   case region=>rcases jau h1 with⟨l,e⟩|⟨l,e⟩<;>cases e
   all_goals simp only[wu]at h1
   all_goals try(simp at h1;done)
   ·split at h1<;>simp at h1
   ·split at h1<;>simp at h1
   ·obtain⟨x,h3,h4⟩:=Option.map_eq_some_iff.1 h1;injection h4 with h4 h5;subst h4 h5;exact Runs.step (λb cs=>step_block) (zad ih le (.code h3 (.blk h2)) hF hR)
 |blk _ ih=>
  intro C a L le hk hF hR
  cases hk with
  |blk h2=>exact Runs.step (λb cs=>step_inBlock) (zad ih le h2 hF hR)
 |loop _ ih=>
  intro C a L le hk hF hR
  cases hk with
  |code h1 h2=>
   rename_i c' K'
   cases c'
   case region=>rcases jau h1 with⟨l,e⟩|⟨l,e⟩<;>cases e
   all_goals simp only[wu]at h1
   all_goals try(simp at h1;done)
   ·split at h1<;>simp at h1
   ·split at h1<;>simp at h1
   ·obtain⟨x,h3,h4⟩:=Option.map_eq_some_iff.1 h1;injection h4 with h4;subst h4;exact Runs.step (λb cs=>step_loop) (zad ih le (.code h3 (.lp h3 h2)) hF hR)
 |lp _ ih=>
  intro C a L le hk hF hR
  cases hk with
  |lp h1 h2=>exact Runs.step (λb cs=>step_inLoop) (zad ih le (.code h1 (.lp h1 h2)) hF hR)
 |exit he _ ih=>
  intro C a L le hk hF hR
  cases hk with
  |code h1 h2=>
   rename_i c' K'
   cases c'
   case region=>rcases jau h1 with⟨l,e⟩|⟨l,e⟩<;>cases e
   all_goals simp only[wu]at h1
   all_goals try(simp at h1;done)
   ·split at h1<;>simp at h1
   ·split at h1<;>simp at h1
   ·injection h1 with h1;injection h1 with h1;subst h1;obtain⟨L1,h3,h4⟩:=whr h2 he;exact Runs.step (λb cs=>step_exit h3) (zad ih le h4 hF hR)
 |ret hv hRv=>
  intro C a L le hk hF hR
  cases hk with
  |code h1 h2=>
   rename_i c' K'
   cases c'
   case region=>rcases jau h1 with⟨l,e⟩|⟨l,e⟩<;>cases e
   all_goals simp only[wu]at h1
   all_goals try(simp at h1;done)
   ·split at h1<;>simp at h1
   ·split at h1<;>simp at h1
   ·obtain⟨u,hu,hx⟩:=zf0 (P:=P) hr hR hF hv;intro b cs hb hkd;refine⟨.returned u,C.w,_,⟨C,_,_,u,rfl,rfl,hRv,hR,hx,le⟩,Steps.one step_ret, ?_, ?_⟩
    ·simp[Frame.at,hb]
    ·refine⟨rfl,by simp[Frame.at,hF.defers],by simp[Frame.at,hkd],fn,by simp[Frame.at,hb,hf],by simpa [Frame.at]using hu⟩
 |fin hv hRv=>
  intro C a L le hk hF hR
  cases hk;obtain⟨u,hu,hx⟩:=zf0 (P:=P) hr hR hF hv;intro b cs hb hkd;refine⟨.returned u,C.w,_,⟨C,_,_,u,rfl,rfl,hRv,hR,hx,le⟩,Steps.one step_end, ?_, ?_⟩
  ·simp[Frame.at,hb]
  ·refine⟨rfl,by simp[Frame.at,hF.defers],by simp[Frame.at,hkd],fn,by simp[Frame.at,hb,hf],by simpa [Frame.at]using hu⟩
 |region _ ih=>
  intro C a L le hk hF hR
  cases hk with
  |code h1 h2=>
   rename_i c' K'
   cases c';all_goals try simp only[wu]at h1
   all_goals try(simp at h1;done)
   ·rename_i id ops draw
    cases draw with
    |true=>
     simp only[wu]at h1;split at h1
     ·rename_i l hl;obtain⟨ms,segs,e,_⟩:=wb7 hl h1
      cases e
     ·cases h1
    |false=>
    simp only[wu]at h1;obtain⟨x,h3,h4⟩:=Option.map_eq_some_iff.1 h1;injection h4 with h4;subst h4;have htr:=zle (ops:=ops) 0 h3 (λi hi=>by simp only[Nat.zero_add,Array.length_toList]at hi⊢;simp[hi]);have e0:((List.range ops.toList.length).map (0+ ·))=List.range ops.size:=gx;rw[e0]at htr;have:=ih C a ops _ K' le htr h2 hF hR;intro b cs hb hkd;obtain⟨e,a',w',⟨rfl,hruns⟩,harr⟩:=wp_region (id:=id) this b K' cs;obtain⟨e',w1,fr',q1,q2,q3,q4⟩:=hruns b cs hb hkd;exact⟨e',w1,fr',q1,.of_steps harr q2,q3,q4⟩
   ·split at h1<;>simp at h1
   ·split at h1<;>simp at h1
 |draw _ ih=>
  intro C a L le hk hF hR
  cases hk with
  |code h1 h2=>
   rename_i c' K'
   cases c';all_goals try simp only[wu]at h1
   all_goals try(simp at h1;done)
   ·rename_i id ops draw
    cases draw with
    |false=>
     simp only[wu]at h1;obtain⟨x,h3,h4⟩:=Option.map_eq_some_iff.1 h1
     cases h4
    |true=>
    simp only[wu]at h1;split at h1
    ·rename_i l hl;obtain⟨ms,segs,e,hA,hS,hok⟩:=wb7 hl h1;injection e with e;subst e
     have:=ih C.drew a ops ms 0 K' (le.trans C.le_drew) hA hS hok h2 (hF.mono C.le_drew) hR.drew ops.size (Array.replicate ops.size false) ⟨gx,λi hi=>by simp[hi]⟩
      (by have:=List.countP_le_length (p:=λi=> !(Array.replicate ops.size false).getD i true) (l:=List.range ops.size);simpa [rem]using this)
     intro b cs hb hkd;obtain⟨e,a',w',⟨rfl,hruns⟩,harr⟩:=wp_region_any (id:=id) hm this b K' cs;obtain⟨e',w1,fr',q1,q2,q3,q4⟩:=hruns b cs hb hkd;exact⟨e',w1,fr',q1,.of_steps harr q2,q3,q4⟩
    ·cases h1
   ·split at h1<;>simp at h1
   ·split at h1<;>simp at h1
 |segs _ ih=>
  intro C a ops ms p L le hA hS hok hk hF hR fuel listed hU hrem
  cases hS;rename_i e;subst e;exact any_nil hA hU ⟨rfl,zad ih le hk hF hR⟩ fuel
 |sop hw ha _ ih=>
  intro C a ops ms p L le hA hS hok hk hF hR fuel listed hU hrem
  cases hS with
  |cons ne h cut hr=>
   obtain⟨o,h1,h2⟩:=h 0 gx;have hle:=hr.le;simp only[List.length_cons,List.length_nil]at hle;refine jda hA hU O cut hrem λfuel' listed' hU' hrem'=>?_;refine jat h1 h2 hw ha hF hR λD a' q1 q2 q3=>ih D a' ops ms _ L (le.trans q2) hA hr (by simp only[wce,Bool.and_eq_true]at hok;exact hok.2) hk q3 q1 fuel' listed' hU' hrem'
 |sno hw _ ih=>
  intro C a ops ms p L le hA hS hok hk hF hR fuel listed hU hrem
  cases hS with
  |cons ne h cut hr=>
   obtain⟨o,h1,h2⟩:=h 0 gx;have hle:=hr.le;simp only[List.length_cons,List.length_nil]at hle;refine jda hA hU O cut hrem λfuel' listed' hU' hrem'=>?_;refine jbt h1 h2 hw hF λa' q3=>ih C a' ops ms _ L le hA hr (by simp only[wce,Bool.and_eq_true]at hok;exact hok.2) hk q3 hR fuel' listed' hU' hrem'
 |scall Q hw hfo hargs hok' _ ih=>
  intro C a ops ms p L le hA hS hok hk hF hR fuel listed hU hrem
  cases hS with
  |cons ne h cut hr=>
   obtain⟨o,h1,h2⟩:=h 0 gx;have hle:=hr.le;simp only[List.length_cons,List.length_nil]at hle;refine jda hA hU O cut hrem λfuel' listed' hU' hrem'=>?_;refine ja5 h1 h2 hw hfo hargs hok' hF hR λD a' r G' hQ q1 q2 q3=>ih r G' hQ D a' ops ms _ L (le.trans q2) hA hr (by simp only[wce,Bool.and_eq_true]at hok;exact hok.2) hk q3 q1 fuel' listed' hU' hrem'
 |@quiet s1 s2 seg rest K fr F G hq _ ih=>
  intro C a ops ms p L le hA hS hok hk hF hR fuel listed hU hrem
  cases hS with
  |cons ne h cut hr=>
   have hle:=hr.le;simp only[wce,Bool.and_eq_true]at hok;obtain⟨k1,k2⟩:=zb0 hok.1.1 gx;have hlate:wg1 (s1::s2::seg):=jg2 k1 λk k' hk hk' t ht hd=>by
    have:=hA.lt _ _ (k2 k k' hk hk' t ht hd);omega
   obtain⟨f1,f2⟩:=hq.facts hlate
   refine wi6 (C0:=C0) hA hle h k2 cut f2 (λD a' listed' fuel' q1 q2 q3 q4 q5=>ih D a' ops ms _ L q3 hA hr hok.2 hk q4 q5 fuel' listed' q1 q2) fuel listed C a hU.1
    (λi hi=>by rw[hU.2 i O];simp[hi]) (λi hi hlt=>by rw[hU.2 i hlt];simp;omega) (hU.closed hA O) hrem le hR hF.defers hF.size (λt x hx hw=>?_)
   refine hF.slot t x ?_;rw[<-f1 t,hx];intro y hy hd;obtain⟨k,hk,rfl⟩:=List.mem_iff_getElem.1 hy;have:=hw k hk hd;rw[hU.2 (p+k) O]at this;simp at this;omega
 |@qc seg rest K fr G Z hqc _ ih=>
  intro C a ops ms p L le hA hS hok hk hF hR fuel listed hU hrem
  cases hS with
  |cons ne h cut hr=>
   have hle:=hr.le;simp only[wce,Bool.and_eq_true]at hok;have hz:∀F V,Z F V->(∃F0,Feq F0 F/\Z F0 V):=λF V h=>⟨F,λ_=>rfl,h⟩;have hkk:(∀k k' (h:k<seg.length) (h':k'<seg.length) d,k≠k'->seg[k].dst=some d->seg[k'].dst≠some d)/\∀k k' (h:k<seg.length) (h':k'<seg.length) t,t∈seg[k].looks->seg[k'].dst=some t->(ms.getD (p+k) 0).testBit (p+k')=true\/seg.length=1:=by
    by_cases h2:2<=seg.length
    ·obtain⟨k1,k2⟩:=zb0 hok.1.1 h2;exact⟨k1,λk k' h h' t ht hd=>.inl (k2 k k' h h' t ht hd)⟩
    ·have hp:=List.length_pos_iff.2 ne;exact⟨λk k' h h' d hne=>O,λk k' h h' t ht hd=>.inr O⟩
   by_cases h1:seg.length=1
   ·obtain⟨x,rfl⟩:=List.length_eq_one_iff.1 h1;obtain⟨o,g1,g2⟩:=h 0 gx;simp only[List.length_cons,List.length_nil]at hle;refine jda hA hU O cut hrem λfuel' listed' hU' hrem'=>?_;have fin:∀{F V},Qc P Z [] F V->Z F V:=λhq=>by cases hq;assumption
    obtain⟨xd,xo,xg⟩:=x
    cases hqc.now with
    |op ao v e hw ha hn=>
     simp only at e;subst e;exact jat g1 g2 hw (ha G) hF hR λD a' q1 q2 q3=>ih _ _ (fin hn) D a' ops ms _ L (le.trans q2) hA hr hok.2 hk q3 q1 fuel' listed' hU' hrem'
    |no hw hn=>exact jbt g1 g2 hw hF λa' q3=>ih _ _ (fin hn) C a' ops ms _ L le hA hr hok.2 hk q3 hR fuel' listed' hU' hrem'
    |call f args n pre cap vs Q' e hw hf hargs hok' hn=>
     simp only at e;subst e;exact ja5 g1 g2 hw hf hargs hok' hF hR λD a' r G' hQ q1 q2 q3=>ih _ _ (fin (hn r G' hQ)) D a' ops ms _ L (le.trans q2) hA hr hok.2 hk q3 q1 fuel' listed' hU' hrem'
   ·have hZ':∀F F' V,Feq F F'->(∃F0,Feq F0 F/\Z F0 V)->∃F0,Feq F0 F'/\Z F0 V:=λF F' V he ⟨F0,h0,hz⟩=>⟨F0,λt=>(h0 t).trans (he t),hz⟩;have hch:=hok.1.2;simp only[jeu,Bool.and_eq_true]at hch
    refine jle (C0:=C0) (Z:=λF V=>∃F0,Feq F0 F/\Z F0 V) (W:=Qc P λF V=>∃F0,Feq F0 F/\Z F0 V) (hv:=AO.isCall) (λF V hq=>by cases hq;assumption) (λx s1 s2 fr G=>Qc.next hZ' x s1 s2 fr G) hA hle ne h hkk.1 (λk k' h h' t ht hd=>(hkk.2 k k' h h' t ht hd).resolve_right h1) hch.1 cut
     (λD a' F V listed' fuel' hzz q1 q2 q3 q4 q5=>?_) fuel listed C a fr G hU.1 (λi hi=>by rw[hU.2 i O];simp[hi]) (λi hi hlt=>by rw[hU.2 i hlt];simp;omega) (hU.closed hA O) hrem le hR hF ?_
    ·obtain⟨F0,h0,hzz⟩:=hzz;exact ih F0 V hzz D a' ops ms _ L q3 hA hr hok.2 hk ⟨q4.defers,q4.size,λt x hx=>q4.slot t x (by rw[<-h0 t];exact hx)⟩ q5 fuel' listed' q1 q2
    ·have hfull:left p seg listed=jr p seg:=by
      unfold left;refine List.filter_eq_self.2 λz hz=>?_;obtain⟨i,x⟩:=z;obtain⟨m,hm,rfl,rfl⟩:=zm.1 hz;have:=hU.2 (p+m) O;simp[Array.getD_eq_getD_getElem?,this]
     have hsnd:∀{l:List jd} {q:Nat},(jr q l).map (·.2)=l:=by
      intro l
      induction l with
      |nil=>intro q;rfl
      |cons x r ihl=>intro q;simp[jr,ihl]
     rw[hfull,hsnd];exact hqc.mono hz
 |@qw seg rest K fr G Z hqc _ ih=>
  intro C a ops ms p L le hA hS hok hk hF hR fuel listed hU hrem
  cases hS with
  |cons ne h cut hr=>
   have hle:=hr.le;simp only[wce,Bool.and_eq_true]at hok;have hz:∀F V,Z F V->(∃F0,Feq F0 F/\Z F0 V):=λF V h=>⟨F,λ_=>rfl,h⟩;have hkk:(∀k k' (h:k<seg.length) (h':k'<seg.length) d,k≠k'->seg[k].dst=some d->seg[k'].dst≠some d)/\∀k k' (h:k<seg.length) (h':k'<seg.length) t,t∈seg[k].looks->seg[k'].dst=some t->(ms.getD (p+k) 0).testBit (p+k')=true\/seg.length=1:=by
    by_cases h2:2<=seg.length
    ·obtain⟨k1,k2⟩:=zb0 hok.1.1 h2;exact⟨k1,λk k' h h' t ht hd=>.inl (k2 k k' h h' t ht hd)⟩
    ·have hp:=List.length_pos_iff.2 ne;exact⟨λk k' h h' d hne=>O,λk k' h h' t ht hd=>.inr O⟩
   by_cases h1:seg.length=1
   ·obtain⟨x,rfl⟩:=List.length_eq_one_iff.1 h1;obtain⟨o,g1,g2⟩:=h 0 gx;simp only[List.length_cons,List.length_nil]at hle;refine jda hA hU O cut hrem λfuel' listed' hU' hrem'=>?_;have fin:∀{F V},Qw P Z [] F V->Z F V:=λhq=>by cases hq;assumption
    obtain⟨xd,xo,xg⟩:=x
    cases hqc.now with
    |op ao v e hw ha hn=>
     simp only at e;subst e;exact jat g1 g2 hw (ha G) hF hR λD a' q1 q2 q3=>ih _ _ (fin hn) D a' ops ms _ L (le.trans q2) hA hr hok.2 hk q3 q1 fuel' listed' hU' hrem'
    |no hw hn=>exact jbt g1 g2 hw hF λa' q3=>ih _ _ (fin hn) C a' ops ms _ L le hA hr hok.2 hk q3 hR fuel' listed' hU' hrem'
    |rd ao v e ho hw ha hn=>
     simp only at e;subst e;exact jat g1 g2 hw ha hF hR λD a' q1 q2 q3=>ih _ _ (fin hn) D a' ops ms _ L (le.trans q2) hA hr hok.2 hk q3 q1 fuel' listed' hU' hrem'
    |wr ao v G' e ho hw ha hn=>
     simp only at e;subst e;exact jat g1 g2 hw ha hF hR λD a' q1 q2 q3=>ih _ _ (fin hn) D a' ops ms _ L (le.trans q2) hA hr hok.2 hk q3 q1 fuel' listed' hU' hrem'
   ·have hZ':∀F F' V,Feq F F'->(∃F0,Feq F0 F/\Z F0 V)->∃F0,Feq F0 F'/\Z F0 V:=λF F' V he ⟨F0,h0,hz⟩=>⟨F0,λt=>(h0 t).trans (he t),hz⟩;have hch:=hok.1.2;simp only[jeu,Bool.and_eq_true]at hch
    refine zi7 (C0:=C0) (Z:=λF V=>∃F0,Feq F0 F/\Z F0 V) (W:=Qw P λF V=>∃F0,Feq F0 F/\Z F0 V) (cf:=AO.clash) (λF V hq=>by cases hq;assumption) (λx s1 s2 fr G=>Qw.next hZ' x s1 s2 fr G) hA hle ne h hkk.1 (λk k' h h' t ht hd=>(hkk.2 k k' h h' t ht hd).resolve_right h1) (ji7 hch.2.2) cut
     (λD a' F V listed' fuel' hzz q1 q2 q3 q4 q5=>?_) fuel listed C a fr G hU.1 (λi hi=>by rw[hU.2 i O];simp[hi]) (λi hi hlt=>by rw[hU.2 i hlt];simp;omega) (hU.closed hA O) hrem le hR hF ?_
    ·obtain⟨F0,h0,hzz⟩:=hzz;exact ih F0 V hzz D a' ops ms _ L q3 hA hr hok.2 hk ⟨q4.defers,q4.size,λt x hx=>q4.slot t x (by rw[<-h0 t];exact hx)⟩ q5 fuel' listed' q1 q2
    ·have hfull:left p seg listed=jr p seg:=by
      unfold left;refine List.filter_eq_self.2 λz hz=>?_;obtain⟨i,x⟩:=z;obtain⟨m,hm,rfl,rfl⟩:=zm.1 hz;have:=hU.2 (p+m) O;simp[Array.getD_eq_getD_getElem?,this]
     have hsnd:∀{l:List jd} {q:Nat},(jr q l).map (·.2)=l:=by
      intro l
      induction l with
      |nil=>intro q;rfl
      |cons x r ihl=>intro q;simp[jr,ihl]
     rw[hfull,hsnd];exact hqc.mono hz
 |@qk seg rest K fr G I Z hI hqc _ ih=>
  intro C a ops ms p L le hA hS hok hk hF hR fuel listed hU hrem
  cases hS with
  |cons ne h cut hr=>
   have hle:=hr.le;simp only[wce,Bool.and_eq_true]at hok;have hz:∀F V,Z F V->(∃F0,Feq F0 F/\Z F0 V):=λF V h=>⟨F,λ_=>rfl,h⟩;have hkk:(∀k k' (h:k<seg.length) (h':k'<seg.length) d,k≠k'->seg[k].dst=some d->seg[k'].dst≠some d)/\∀k k' (h:k<seg.length) (h':k'<seg.length) t,t∈seg[k].looks->seg[k'].dst=some t->(ms.getD (p+k) 0).testBit (p+k')=true\/seg.length=1:=by
    by_cases h2:2<=seg.length
    ·obtain⟨k1,k2⟩:=zb0 hok.1.1 h2;exact⟨k1,λk k' h h' t ht hd=>.inl (k2 k k' h h' t ht hd)⟩
    ·have hp:=List.length_pos_iff.2 ne;exact⟨λk k' h h' d hne=>O,λk k' h h' t ht hd=>.inr O⟩
   by_cases h1:seg.length=1
   ·obtain⟨x,rfl⟩:=List.length_eq_one_iff.1 h1;obtain⟨o,g1,g2⟩:=h 0 gx;simp only[List.length_cons,List.length_nil]at hle;refine jda hA hU O cut hrem λfuel' listed' hU' hrem'=>?_;have fin:∀{F V},Qk P I Z [] F V->Z F V:=λhq=>by cases hq;assumption
    obtain⟨xd,xo,xg⟩:=x
    cases hqc.now with
    |op ao v e hw ha hn=>
     simp only at e;subst e;exact jat g1 g2 hw (ha G hI) hF hR λD a' q1 q2 q3=>ih _ _ (fin hn) D a' ops ms _ L (le.trans q2) hA hr hok.2 hk q3 q1 fuel' listed' hU' hrem'
    |no hw hn=>exact jbt g1 g2 hw hF λa' q3=>ih _ _ (fin hn) C a' ops ms _ L le hA hr hok.2 hk q3 hR fuel' listed' hU' hrem'
    |call f args n pre cap vs r e hw hf hargs hok' hn=>
     simp only at e;subst e;exact ja5 g1 g2 hw hf hargs (hok' G hI) hF hR λD a' r' G' hQ q1 q2 q3=>by
      obtain⟨rfl,rfl⟩:=hQ;exact ih _ _ (fin hn) D a' ops ms _ L (le.trans q2) hA hr hok.2 hk q3 q1 fuel' listed' hU' hrem'
    |wop ao v G' e ho hw ha hI' hn=>
     simp only at e;subst e;exact jat g1 g2 hw ha hF hR λD a' q1 q2 q3=>ih _ _ (fin hn) D a' ops ms _ L (le.trans q2) hA hr hok.2 hk q3 q1 fuel' listed' hU' hrem'
   ·have hZ':∀F F' V,Feq F F'->(∃F0,Feq F0 F/\Z F0 V)->∃F0,Feq F0 F'/\Z F0 V:=λF F' V he ⟨F0,h0,hz⟩=>⟨F0,λt=>(h0 t).trans (he t),hz⟩;have hch:=hok.1.2;simp only[jeu,Bool.and_eq_true]at hch
    refine jle (C0:=C0) (Z:=λF V=>∃F0,Feq F0 F/\Z F0 V) (W:=λl F V=>I V/\Qk P I (λF V=>∃F0,Feq F0 F/\Z F0 V) l F V) (hv:=AO.writes) (λF V hq=>by cases hq.2;assumption) (λx s1 s2 fr G=>Qk.next hZ' x s1 s2 fr G) hA hle ne h hkk.1 (λk k' h h' t ht hd=>(hkk.2 k k' h h' t ht hd).resolve_right h1) hch.2.1 cut
     (λD a' F V listed' fuel' hzz q1 q2 q3 q4 q5=>?_) fuel listed C a fr G hU.1 (λi hi=>by rw[hU.2 i O];simp[hi]) (λi hi hlt=>by rw[hU.2 i hlt];simp;omega) (hU.closed hA O) hrem le hR hF ?_
    ·obtain⟨F0,h0,hzz⟩:=hzz;exact ih F0 V hzz D a' ops ms _ L q3 hA hr hok.2 hk ⟨q4.defers,q4.size,λt x hx=>q4.slot t x (by rw[<-h0 t];exact hx)⟩ q5 fuel' listed' q1 q2
    ·have hfull:left p seg listed=jr p seg:=by
      unfold left;refine List.filter_eq_self.2 λz hz=>?_;obtain⟨i,x⟩:=z;obtain⟨m,hm,rfl,rfl⟩:=zm.1 hz;have:=hU.2 (p+m) O;simp[Array.getD_eq_getD_getElem?,this]
     have hsnd:∀{l:List jd} {q:Nat},(jr q l).map (·.2)=l:=by
      intro l
      induction l with
      |nil=>intro q;rfl
      |cons x r ihl=>intro q;simp[jr,ihl]
     rw[hfull,hsnd];exact⟨hI,hqc.mono hz⟩
 |@qx α β seg rest K fr S I Z a0 b0 hinj hI hqc _ ih=>
  intro C a ops ms p L le hA hS hok hk hF hR fuel listed hU hrem
  cases hS with
  |cons ne h cut hr=>
   have hle:=hr.le;simp only[wce,Bool.and_eq_true]at hok;have hz:∀F a b,Z F a b->(∃F0,Feq F0 F/\Z F0 a b):=λF a b h=>⟨F,λ_=>rfl,h⟩;have hkk:(∀k k' (h:k<seg.length) (h':k'<seg.length) d,k≠k'->seg[k].dst=some d->seg[k'].dst≠some d)/\∀k k' (h:k<seg.length) (h':k'<seg.length) t,t∈seg[k].looks->seg[k'].dst=some t->(ms.getD (p+k) 0).testBit (p+k')=true\/seg.length=1:=by
    by_cases h2:2<=seg.length
    ·obtain⟨k1,k2⟩:=zb0 hok.1.1 h2;exact⟨k1,λk k' h h' t ht hd=>.inl (k2 k k' h h' t ht hd)⟩
    ·have hp:=List.length_pos_iff.2 ne;exact⟨λk k' h h' d hne=>O,λk k' h h' t ht hd=>.inr O⟩
   by_cases h1:seg.length=1
   ·obtain⟨x,rfl⟩:=List.length_eq_one_iff.1 h1;obtain⟨o,g1,g2⟩:=h 0 gx;simp only[List.length_cons,List.length_nil]at hle;refine jda hA hU O cut hrem λfuel' listed' hU' hrem'=>?_;have fin:∀{F a b},Qx P S I Z [] F a b->Z F a b:=λhq=>by cases hq;assumption
    obtain⟨xd,xo,xg⟩:=x
    cases hqc.now with
    |op ao v e hw ha hn=>
     simp only at e;subst e;exact jat g1 g2 hw (ha a0 b0 hI) hF hR λD a' q1 q2 q3=>ih _ _ _ (fin hn) D a' ops ms _ L (le.trans q2) hA hr hok.2 hk q3 q1 fuel' listed' hU' hrem'
    |no hw hn=>exact jbt g1 g2 hw hF λa' q3=>ih _ _ _ (fin hn) C a' ops ms _ L le hA hr hok.2 hk q3 hR fuel' listed' hU' hrem'
    |call f args n pre cap vs Q' e hw hf hargs hok' hn=>
     simp only at e;subst e;exact ja5 g1 g2 hw hf hargs (hok' b0 hI) hF hR λD a' r G' hQ q1 q2 q3=>by
      obtain⟨a1,hQ,rfl⟩:=hQ;exact ih _ _ _ (fin (hn r a1 hQ)) D a' ops ms _ L (le.trans q2) hA hr hok.2 hk q3 q1 fuel' listed' hU' hrem'
    |wop ao v b1 e ho hw ha hI' hn=>
     simp only at e;subst e;exact jat g1 g2 hw (ha a0) hF hR λD a' q1 q2 q3=>ih _ _ _ (fin hn) D a' ops ms _ L (le.trans q2) hA hr hok.2 hk q3 q1 fuel' listed' hU' hrem'
   ·have hZ':∀F F' a b,Feq F F'->(∃F0,Feq F0 F/\Z F0 a b)->∃F0,Feq F0 F'/\Z F0 a b:=λF F' a b he ⟨F0,h0,hz⟩=>⟨F0,λt=>(h0 t).trans (he t),hz⟩;have hch:=hok.1.2;simp only[jeu,Bool.and_eq_true]at hch
    refine zi7 (C0:=C0) (Z:=λF V=>∃a b,V=S a b/\I b/\∃F0,Feq F0 F/\Z F0 a b) (W:=λl F V=>∃a b,V=S a b/\I b/\Qx P S I (λF a b=>∃F0,Feq F0 F/\Z F0 a b) l F a b) (cf:=AO.both) (λF V hq=>by obtain⟨a,b,e,hb,hq⟩:=hq;cases hq;exact⟨a,b,e,hb,by assumption⟩) (λx s1 s2 fr G=>Qx.next hZ' hinj x s1 s2 fr G) hA hle ne h hkk.1 (λk k' h h' t ht hd=>(hkk.2 k k' h h' t ht hd).resolve_right h1)
     (λk k' hk hk' hlt hc=>by
       rw[AO.both,Bool.or_eq_true,yau,yau]at hc;rcases hc with hc|hc
       ·exact jdw hch.1 hk hk' hlt hc.1 hc.2
       ·exact jdw hch.2.1 hk hk' hlt hc.1 hc.2) cut
     (λD a' F V listed' fuel' hzz q1 q2 q3 q4 q5=>?_) fuel listed C a fr (S a0 b0) hU.1 (λi hi=>by rw[hU.2 i O];simp[hi]) (λi hi hlt=>by rw[hU.2 i hlt];simp;omega) (hU.closed hA O) hrem le hR hF ?_
    ·obtain⟨a1,b1,rfl,_,F0,h0,hzz⟩:=hzz;exact ih F0 a1 b1 hzz D a' ops ms _ L q3 hA hr hok.2 hk ⟨q4.defers,q4.size,λt x hx=>q4.slot t x (by rw[<-h0 t];exact hx)⟩ q5 fuel' listed' q1 q2
    ·have hfull:left p seg listed=jr p seg:=by
      unfold left;refine List.filter_eq_self.2 λz hz=>?_;obtain⟨i,x⟩:=z;obtain⟨m,hm,rfl,rfl⟩:=zm.1 hz;have:=hU.2 (p+m) O;simp[Array.getD_eq_getD_getElem?,this]
     have hsnd:∀{l:List jd} {q:Nat},(jr q l).map (·.2)=l:=by
      intro l
      induction l with
      |nil=>intro q;rfl
      |cons x r ihl=>intro q;simp[jr,ihl]
     rw[hfull,hsnd];exact⟨a0,b0,rfl,hI,hqc.mono hz⟩
 |nil _ ih=>
  intro C a ops is L le ht hk hF hR
  cases ht;exact⟨rfl,zad ih le hk hF hR⟩
 |@op d ao g rest K fr G v G' hw ha _ ih=>
  intro C a ops is L le ht hk hF hR
  cases ht with
  |cons h1 h2 h3=>
   rw[wpOps_cons];exact jat h1 h2 hw ha hF hR λD a' q1 q2 q3=>ih D a' ops _ L (le.trans q2) h3 hk q3 q1
 |@nilq d neg x g rest K fr G y hw hx hy _ ih=>
  intro C a ops is L le ht hk hF hR
  cases ht with
  |cons h1 h2 h3=>
   rw[wpOps_cons];exact zir h1 h2 hw hx hy hF hR λb a' q3=>ih b C a' ops _ L le h3 hk q3 hR
 |@no d o' g rest K fr G hw _ ih=>
  intro C a ops is L le ht hk hF hR
  cases ht with
  |cons h1 h2 h3=>
   rw[wpOps_cons];exact jbt h1 h2 hw hF λa' q3=>ih C a' ops _ L le h3 hk q3 hR
 |@call d fo args g rest K fr G n pre cap vs Q hw hfo hargs hok _ ih=>
  intro C a ops is L le ht hk hF hR
  cases ht with
  |cons h1 h2 h3=>
   rw[wpOps_cons];exact ja5 h1 h2 hw hfo hargs hok hF hR λD a' r G' hQ q1 q2 q3=>ih r G' hQ D a' ops _ L (le.trans q2) h3 hk q3 q1
 |@old K fr G _ ih=>
  have key:∀(C:Cx) (a:Act),FrR C nt fr a->Rl C G->∀t x,look fr t=some x->∀y∈x.all,Old G.next y:=λC a hF hR t x hx=>(hF.slot t x hx).2.old hR.F
  cases K with
  |nil=>
   intro C a L le hk hF hR;exact ih (key C a hF hR) hR.old C a L le hk hF hR
  |cons k K=>
   cases k with
   |ops l=>
    intro C a ops is L le ht hk hF hR;exact ih (key C a hF hR) hR.old C a ops is L le ht hk hF hR
   |segs l=>
    intro C a ops ms p L le hA hS hok hk hF hR fuel listed hU hrem;exact ih (key C a hF hR) hR.old C a ops ms p L le hA hS hok hk hF hR fuel listed hU hrem
   |_=>
    intro C a L le hk hF hR;exact ih (key C a hF hR) hR.old C a L le hk hF hR
 |@shift K fr G fr' G' hs _ ih=>
  have key:∀(C:Cx) (a:Act),C0.Le C->FrR C nt fr a->Rl C G->∃D,D.w=C.w/\C0.Le D/\FrR D nt fr' a/\Rl D G':=by
   intro C a le hF hR;obtain⟨D,h1,h3,h4⟩:=hs C a hF hR;exact⟨D,h1.w,h1.of le h0,h3,h4⟩
  cases K with
  |nil=>
   intro C a L le hk hF hR;obtain⟨D,h1,h2,h3,h4⟩:=key C a le hF hR;rw[<-h1];exact zad ih h2 hk h3 h4
  |cons k K=>
   cases k with
   |ops l=>
    intro C a ops is L le ht hk hF hR;obtain⟨D,h1,h2,h3,h4⟩:=key C a le hF hR;rw[<-h1];exact ih D a ops is L h2 ht hk h3 h4
   |segs l=>
    intro C a ops ms p L le hA hS hok hk hF hR fuel listed hU hrem;obtain⟨D,h1,h2,h3,h4⟩:=key C a le hF hR;rw[<-h1];exact ih D a ops ms p L h2 hA hS hok hk h3 h4 fuel listed hU hrem
   |_=>
    intro C a L le hk hF hR;obtain⟨D,h1,h2,h3,h4⟩:=key C a le hF hR;rw[<-h1];exact zad ih h2 hk h3 h4

end Go.Proofs.YtedaadaaibofaaaGreat.Am
namespace Go.Proofs.YtedaadaaibofaaaGreat.Am
open Go.RowKit

structure AFn where
 nt:Nat
 rets:List RV
 body:AC
def ze(P:Program)(fz:List Nat)(f:Nat):Option AFn:=
 match P.funcs[f]? with
 |some fn=>
  match fn.body with
  |some c=>
   if fn.name== "runtime.NumGoroutine" then none else
   match wfz P fn.results.toList,wu P fz fn.ntmps c with
   |some rets,some b=>some ⟨fn.ntmps,rets,b⟩
   |_,_=>none
  |none=>none
 |none=>none
def frOf:Nat->List AV->Fr
 |_,[]=>[]
 |k,x::r=>(k,x)::frOf (k+1) r

theorem wg2:∀(args:List AV) (k t:Nat) (x:AV),look (frOf k args) t=some x->k<=t/\∃h:t-k<args.length,args[t-k]=x
 |[],k,t,x,h=>by simp[frOf,look]at h
 |y::r,k,t,x,h=>by
  simp only[frOf,look]at h;split at h
  ·rename_i e;subst e;injection h with h;subst h;exact⟨yaf _,gx,gx⟩
  ·rename_i e;obtain⟨h1,h2,h3⟩:=wg2 r (k+1) t x h;refine⟨O,by simp;omega, ?_⟩;have:t-k=(t-(k+1))+1:=O;simp only[this,List.getElem_cons_succ];exact h3

variable {P:Program}
theorem Ok.of_go(hm:P.follows .mixedOrders=true){fz:List Nat}{f:Nat}{af:AFn}(h:ze P fz f=some af){args:List AV}{G:jb}{R:AV->jb->Prop}(hn:args.length<=af.nt)(hg:Go P G.next af.nt af.rets R [.code af.body] (frOf 0 args) G):Ok P f args G R:=by
 unfold ze at h;split at h
 ·rename_i fn hf;split at h
  ·rename_i c hb;split at h
   ·cases h
   ·rename_i hname;split at h
    ·rename_i rets b hrets hcode;injection h with h;subst h;refine⟨⟨fn,hf,by rw[hb];rfl,by simpa using hname⟩,λC cargs hR ⟨hl,hargs⟩=>?_⟩;have hs:=λC h0=>hg.says hm (fz:=fz) hf hrets C h0;have hF:FrR C fn.ntmps (frOf 0 args) {tmps:=cargs++Array.replicate (fn.ntmps-cargs.size) undef,defers:=[]}:=by
      refine⟨rfl,by simp;simp at hn;omega,λt x hx=>?_⟩;obtain⟨_,h2,h3⟩:=wg2 args 0 t x hx;simp only[Nat.sub_zero]at h2 h3;refine⟨by simp at hn;omega, ?_⟩;have:=hargs t h2;rw[<-h3];have hlt:t<cargs.size:=O;rw[Array.getD_eq_getD_getElem?,Array.getElem?_append_left hlt,Array.getElem?_eq_getElem hlt];exact this
     have hruns:=zad (hs C hR.F) (Cx.Le.refl C) (.code hcode .nil) hF hR;intro cs;obtain⟨e,w',fr,h1,h2,h3,h4⟩:=hruns {(default:Frame)with fn:=f,kind:=.normal} cs rfl rfl;have henter:Frame.enter P f cargs .normal=({(default:Frame)with fn:=f,kind:=.normal}:Frame).at {tmps:=cargs++Array.replicate (fn.ntmps-cargs.size) undef,defers:=[]} [.code c]:=by
      simp[Frame.enter,Frame.at,hf,hb]
     rw[henter];exact⟨e,w',fr,h1,h2,h3,h4⟩
    ·cases h
  ·cases h
 ·cases h

variable {f:Nat}{args:List AV}{G:jb}{Q:AV->jb->Prop}
theorem Ok.mono{Q':AV->jb->Prop}(h:Ok P f args G Q)(hq:∀r G',Q r G'->Q' r G'):Ok P f args G Q':=by
 refine⟨h.1,λC cargs hR ha=>(h.2 C cargs hR ha).mono ?_⟩;rintro e w' ⟨D,G',r,v,h1,h2,h3,h4⟩;exact⟨D,G',r,v,h1,h2,hq _ _ h3,h4⟩

variable {n:Nat}
theorem Rp.cut{C D:Cx}(hw:D.w=C.w)(hμ:D.μ=C.μ)(hF:∀id v,C.F id v->id<n->D.F id v)(hM:∀b,D.M b->C.M b){x:Ce}{v:Value}(h:Rp C x v)(ho:Old n x):Rp D x v:=by
 induction h with
 |int k m=>exact .int k m
 |bool b=>exact .bool b
 |str s=>exact .str s
 |nilp=>exact .nilp
 |nils=>exact .nils
 |nilf=>exact .nilf
 |emp a=>exact .emp a
 |any v h1 h2=>exact .any v h1 h2
 |fz0 a cap=>exact .fz0 a cap
 |fz es b o cap s vs hl hMn hc hs cell h ih=>
  cases ho with
  |fz _ ho=>exact .fz es b o cap s vs (by rw[hw];exact hl) (λhm=>hMn (hM _ hm)) hc hs (by rw[hw];exact cell) (λi j hi hj=>ih i j hi hj (ho i j hi hj))
 |fp cs b o vs hl hMn cell h ih=>
  cases ho with
  |fp _ ho=>exact .fp cs b o vs (by rw[hw];exact hl) (λhm=>hMn (hM _ hm)) (by rw[hw];exact cell) (λj hj=>ih j hj (ho j hj))
 |sl0 id v i a hf=>
  cases ho with
  |sl _ _ _ _ _ ho=>exact .sl0 _ _ _ _ (hF _ _ hf ho)
 |sl id v i m c cap hf hn hc hv hk=>
  cases ho with
  |sl _ _ _ _ _ ho=>
   have:=Rp.sl (C:=D) id v i m c cap (hF _ _ hf ho) hn hc (by rw[hμ];exact hv) (by rw[hμ,hw];exact hk);rw[hμ]at this;exact this
 |ptr id v i j hf hv=>
  cases ho with
  |ptr _ _ _ _ ho=>
   have:=Rp.ptr (C:=D) id v i j (hF _ _ hf ho) (by rw[hμ];exact hv);rw[hμ]at this;exact this
 |fn f pre cap ps cs hp hc h1 h2 ih1 ih2=>
  cases ho with
  |fn _ _ _ o1 o2=>exact .fn f pre cap ps cs hp hc (λi hi=>ih1 i hi (o1 i hi)) (λi hi=>ih2 i hi (o2 i hi))

inductive Frz(G:jb)(n:Nat):Ce->Ce->Prop where
 |same (x:Ce) (h:Old n x):Frz G n x x
 |sl (id v i m c:Nat) (es ys:List (List Ce)) (hn:n<=id) (hg:G.get id=some (v,es)) (hi:i+m<=es.length) (hl:ys.length=m) (hs:∀k (hk:k<m),(ys[k]'O).length=(es[i+k]'O).length)
  (h:∀k j (hk:k<m) (hj:j<(ys[k]'O).length),Frz G n ((es[i+k]'O)[j]'(by have:=hs k hk;omega)) ((ys[k]'O)[j])):Frz G n (.sl id v i m c) (.fz ys)
 |nil:Frz G n .nils (.fz [])
 |ptr (id v i j:Nat) (es:List (List Ce)) (e cs:List Ce) (hn:n<=id) (hg:G.get id=some (v,es)) (he:es[i]?=some e) (hl:cs.length+j=e.length)
  (h:∀k (hk:k<cs.length),Frz G n (e[j+k]'O) cs[k]):Frz G n (.ptr id v i j) (.fp cs)
 |fn (f:Nat) (pre cap pre' cap':List Ce) (hp:pre'.length=pre.length) (hc:cap'.length=cap.length) (h1:∀i (hi:i<pre.length),Frz G n pre[i] (pre'[i]'O)) (h2:∀i (hi:i<cap.length),Frz G n cap[i] (cap'[i]'O)):Frz G n (.fn f pre cap) (.fn f pre' cap')
inductive FrzV(G:jb)(n:Nat):AV->AV->Prop where
 |c {x y:Ce} (h:Frz G n x y):FrzV G n (.c x) (.c y)
 |agg {xs ys:List Ce} (hl:ys.length=xs.length) (h:∀i (hi:i<xs.length),Frz G n xs[i] (ys[i]'O)):FrzV G n (.agg xs) (.agg ys)
 |tup {xs ys:List AV} (hl:ys.length=xs.length) (h:∀i (hi:i<xs.length),FrzV G n xs[i] (ys[i]'O)):FrzV G n (.tup xs) (.tup ys)
 |un (x:AV):FrzV G n x .un

theorem Frz.sound{C D:Cx}(hR:Rl C G)(hw:D.w=C.w)(hμ:D.μ=C.μ)(hF:∀id v,C.F id v->id<n->D.F id v)(hM:∀b,D.M b->C.M b)(hN:∀id v es,n<=id->G.get id=some (v,es)->es≠[]->¬D.M (C.μ id v).b){x y:Ce}(hz:Frz G n x y):∀{v:Value},Rp C x v->Rp D y v:=by
 induction hz with
 |same x h=>intro v hx;exact hx.cut hw hμ hF hM h
 |nil=>intro v hx;cases hx;exact .fz0 _ _
 |sl id v i m c es ys hn hg hi hl hs h ih=>
  intro u hx;obtain⟨ad,cap,rfl,hcap,hc⟩:=zdi hR hx (ys:=(es.drop i).take m) (by simp only[jb.els,hg];rw[if_pos (by simp;exact hi)]);have hlen:((es.drop i).take m).length=m:=by simp;omega
  rw[hlen]at hcap hx⊢;rcases ybd m with h0|h0
  ·subst h0;obtain rfl:ys=[]:=yan hl;exact .fz0 _ _
  ·have hne:es≠[]:=by intro e;subst e;simp at hi;omega
   cases hx with
   |sl0=>omega
   |sl _ _ _ _ _ _ hf hnn hcc hvv hk=>
    obtain⟨cs,t,hb,hz,hss,hcell⟩:=hR.blk id v es hg hne;have hyl:∀k (hk:k<ys.length),ys[k].length=(C.μ id v).s:=λk hk=>by rw[hs k O];exact hss _ _
    have at_:∀k j,k<m->j<(C.μ id v).s->∃u,cs[(C.μ id v).base+((i+k)*(C.μ id v).s+j)]?=some u/\∀(q:i+k<es.length) (q2:j<es[i+k].length),Rp C es[i+k][j] u:=by
     intro k j hk hj;obtain⟨u,h1,h2⟩:=hcell (i+k) j O (by rw[hss];exact hj);exact⟨u,h1,λ_ _=>h2⟩
    subst hl;refine .fz ys _ _ cap (C.μ id v).s (λk j=>cs.getD ((C.μ id v).base+((i+k)*(C.μ id v).s+j)) undef) (by rw[hw];exact lt_of_block hb) (hN id v es hn hg hne) O hyl (λk j hk hj=>?_) (λk j hk hj=>?_)
    ·obtain⟨u,h1,_⟩:=at_ k j hk hj;rw[hw,show(C.μ id v).base+i*(C.μ id v).s+(k*(C.μ id v).s+j)=(C.μ id v).base+((i+k)*(C.μ id v).s+j) by rw[yaxq];omega];simp[World.cell?,hb,h1]
    ·have hj':j<(C.μ id v).s:=by rw[<-hyl k hk];exact hj
     obtain⟨u,h1,h2⟩:=at_ k j hk hj';have:=ih k j hk hj (h2 O (by rw[hss];exact hj'));simpa [h1]using this
 |ptr id v i j es e cs hn hg he hl h ih=>
  intro u hx;obtain⟨hi,rfl⟩:=List.getElem?_eq_some_iff.1 he;have hne:es≠[]:=by intro e;subst e;simp at hi
  obtain⟨rfl,hFF,hvv⟩:=jga hx;obtain⟨cc,t,hb,hz,hss,hcell⟩:=hR.blk id v es hg hne;refine .fp cs _ _ (λk=>cc.getD ((C.μ id v).base+(i*(C.μ id v).s+(j+k))) undef) (by rw[hw];exact lt_of_block hb) (hN id v es hn hg hne) (λk hk=>?_) (λk hk=>?_)
  ·obtain⟨u,h1,_⟩:=hcell i (j+k) hi O;rw[hw,show(C.μ id v).base+(i*(C.μ id v).s+j)+k=(C.μ id v).base+(i*(C.μ id v).s+(j+k)) by omega];simp[World.cell?,hb,h1]
  ·obtain⟨u,h1,h2⟩:=hcell i (j+k) hi O;have:=ih k hk h2;simpa [h1]using this
 |fn f pre cap pre' cap' hp hc h1 h2 ih1 ih2=>
  intro u hx
  cases hx with
  |fn _ _ _ ps cs q1 q2 r1 r2=>exact .fn f pre' cap' ps cs O O (λi hi=>ih1 i O (r1 i O)) (λi hi=>ih2 i O (r2 i O))
theorem FrzV.sound{C D:Cx}(hR:Rl C G)(hw:D.w=C.w)(hμ:D.μ=C.μ)(hF:∀id v,C.F id v->id<n->D.F id v)(hM:∀b,D.M b->C.M b)(hN:∀id v es,n<=id->G.get id=some (v,es)->es≠[]->¬D.M (C.μ id v).b){x y:AV}(hz:FrzV G n x y):∀{v:Value},RpV C x v->RpV D y v:=by
 induction hz with
 |c h=>intro v hx;exact .c (h.sound hR hw hμ hF hM hN (jdi hx))
 |agg hl h=>
  intro v hx
  cases hx with
  |agg q1 q2=>exact .agg O λi hi=>(h i O).sound hR hw hμ hF hM hN (q2 i O)
 |tup hl h ih=>
  intro v hx
  cases hx with
  |tup q1 q2=>exact .tup O λi hi=>ih i O (q2 i O)
 |un x=>intro v _;exact .un v

theorem Ok.ends(h:Ok P f args G Q)(G2:jb)(r2:AV)(hnext:G2.next=G.next)
 (hq:∀r G1,Q r G1->(∀id y,G2.get id=some y->G1.get id=some y/\id<G.next/\(G.get id=some y\/∀i j (hi:i<y.2.length) (hj:j<y.2[i].length),Old G.next y.2[i][j]))/\FrzV G1 G.next r r2):
 Ok P f args G (λr G'=>r=r2/\G'=G2):=by
 refine⟨h.1,λC cargs hR ha=>(h.2 C cargs hR ha).mono ?_⟩;rintro e w' ⟨D,G1,r,v,rfl,rfl,hQ,hRD,hx,hle⟩;obtain⟨hsub,hfrz⟩:=hq r G1 hQ
 let D2:Cx:=⟨D.μ,λid v=>D.F id v/\id<G.next,Mof D.μ G2,D.w⟩
 have hMsub:∀b,D2.M b->D.M b:=by
  rintro b ⟨id,v',es,hg,hne,rfl⟩;exact(hRD.M _).2 ⟨id,v',es,(hsub id _ hg).1,hne,rfl⟩
 have hcut:∀{x:Ce} {u:Value},Rp D x u->Old G.next x->Rp D2 x u:=λhx ho=>Rp.cut (C:=D) (D:=D2) rfl rfl (λid v hf hlt=>⟨hf,hlt⟩) hMsub hx ho;have hRl:Rl D2 G2:=by
  refine⟨λid v hf=>by rw[hnext];exact hf.2,λid v' es hg=>?_,λb=>Iff.rfl,λid v es id' v' es' h1 n1 h2 n2 hb=>?_,λid v' es hg hne=>?_⟩
  ·obtain⟨g1,g2,_⟩:=hsub id _ hg;obtain⟨a1,a2,a3⟩:=hRD.live id v' es g1;exact⟨⟨a1,g2⟩,λv1 hv1=>a2 v1 hv1.1,a3⟩
  ·exact hRD.inj id v es id' v' es' (hsub id _ h1).1 n1 (hsub id' _ h2).1 n2 hb
  ·obtain⟨g1,g2,g3⟩:=hsub id _ hg;obtain⟨cs,t,hb,hz,hl,hc⟩:=hRD.blk id v' es g1 hne;refine⟨cs,t,hb,hz,hl,λi j hi hj=>?_⟩;obtain⟨u,h1,h2⟩:=hc i j hi hj;refine⟨u,h1,hcut h2 ?_⟩;rcases g3 with g3|g3
   ·obtain⟨cs0,t0,hb0,hz0,hl0,hc0⟩:=hR.blk id v' es g3 hne;obtain⟨u0,_,k2⟩:=hc0 i j hi hj;exact k2.old hR.F
   ·exact g3 i j hi hj
 refine⟨D2,G2,r2,v,rfl,rfl,⟨rfl,rfl⟩,hRl, ?_, ?_⟩
 ·refine hfrz.sound (D:=D2) hRD rfl rfl (λid v hf hlt=>⟨hf,hlt⟩) hMsub (λid v' es hn hg hne hm=>?_) hx;obtain⟨id2,v2,es2,hg2,hne2,hb⟩:=hm;have g:=hsub id2 _ hg2;have:=hRD.inj id v' es id2 v2 es2 hg hne g.1 hne2 hb.symm;omega
 ·refine⟨λid v hf=>⟨⟨(hle.F id v hf).1,hR.F id v hf⟩,(hle.F id v hf).2⟩,hle.os,hle.tape,hle.output,hle.size,hle.keep,hle.shp,λb hb hm=>hle.M b hb (hMsub b hm)⟩
theorem Ok.pure(h:Ok P f args G Q)(r2:AV)(hlt:∀id y,G.get id=some y->id<G.next)
 (hq:∀r G1,Q r G1->(∀id y,G.get id=some y->G1.get id=some y)/\FrzV G1 G.next r r2):Ok P f args G (λr G'=>r=r2/\G'=G):=
 h.ends G r2 rfl λr G1 hQ=>⟨λid y hg=>⟨(hq r G1 hQ).1 id y hg,hlt id y hg,.inl hg⟩,(hq r G1 hQ).2⟩

inductive zc2:AV->Prop where
 |int (k:IntKind) (n:Int):zc2 (.c (.int k n))
 |bool (b:Bool):zc2 (.c (.bool b))
 |str (s:List UInt8):zc2 (.c (.str s))
 |agg (cs:List Ce) (h:∀i (hi:i<cs.length),zc2 (.c cs[i])):zc2 (.agg cs)
 |tup (vs:List AV) (h:∀i (hi:i<vs.length),zc2 vs[i]):zc2 (.tup vs)
theorem zc2.move{C D:Cx}{x:AV}(hs:zc2 x):∀{v:Value},RpV C x v->RpV D x v:=by
 induction hs with
 |int k n=>intro v h;rw[zba (jdi h)];exact .c (.int _ _)
 |bool b=>intro v h;rw[zga (jdi h)];exact .c (.bool _)
 |str s=>intro v h;rw[jes (jdi h)];exact .c (.str _)
 |agg cs h ih=>
  intro v hx
  cases hx with
  |agg q1 q2=>exact .agg q1 λi hi=>jdi (ih i hi (.c (q2 i hi)))
 |tup vs h ih=>
  intro v hx
  cases hx with
  |tup q1 q2=>exact .tup q1 λi hi=>ih i hi (q2 i hi)

def jb.none(n:Nat):jb:=⟨n,λ_=>Option.none⟩
theorem Ok.lend{args':List AV}{r:AV}(h:Ok P f args' (jb.none G.next) (λr' G'=>r'=r/\G'=jb.none G.next))(hs:zc2 r)(hl:args'.length=args.length)
 (hf:∀i (hi:i<args.length),FrzV G 0 args[i] (args'[i]'O)\/args[i]=args'[i]'O):Ok P f args G (λr' G'=>r'=r/\G'=G):=by
 refine⟨h.1,λC cargs hR ⟨hal,ha⟩=>?_⟩
 let C':Cx:=⟨C.μ,C.F,λ_=>False,C.w⟩
 have hR':Rl C' (jb.none G.next):=⟨hR.F,λid v es hg=>by simp[jb.none]at hg,λb=>⟨λh=>h.elim,λ⟨id,v,es,hg,_⟩=>by simp[jb.none]at hg⟩,λid v es id' v' es' hg=>by simp[jb.none]at hg,λid v es hg=>by simp[jb.none]at hg⟩;have hle:C.Le C':=⟨λ_ _ h=>⟨h,rfl⟩,rfl,rfl,rfl,yaf _,λ_ _ _=>rfl,λb cs t h=>⟨cs,h,rfl⟩,λ_ _ h=>h.elim⟩;refine(h.2 C' cargs hR' ⟨O,λi hi=>?_⟩).mono ?_
 ·rcases hf i O with h|h
  ·exact h.sound (D:=C') hR rfl rfl (λid v _ hlt=>absurd hlt O) (λb h=>h.elim) (λ_ _ _ _ _ _ h=>h) (ha i O)
  ·rw[<-h];exact(ha i O).mono hle
 ·rintro e w' ⟨D',G',r',v,rfl,rfl,⟨rfl,rfl⟩,hRD,hx,hle'⟩;obtain⟨g1,g2⟩:=hR.grow D'.w hle'.os hle'.tape hle'.output hle'.size (λb hb=>hle'.keep b hb (λh=>h));exact⟨⟨C.μ,C.F,C.M,D'.w⟩,G,r',v,rfl,rfl,⟨rfl,rfl⟩,g1,hs.move hx,g2⟩

def keep(fr:Fr):List Nat->Fr
 |[]=>[]
 |t::r=>match look fr t with
  |some x=>(t,x)::keep fr r
  |none=>keep fr r
theorem wew{fr:Fr}:∀{ts:List Nat} {t:Nat} {x:AV},look (keep fr ts) t=some x->look fr t=some x
 |[],t,x,h=>by simp[keep,look]at h
 |s::ts,t,x,h=>by
  simp only[keep]at h;split at h
  ·rename_i y hy;simp only[look]at h;split at h
   ·rename_i e;subst e;injection h with h;subst h;exact hy
   ·exact wew h
  ·exact wew h
theorem zgc.keep{n0 nt:Nat}{fr:Fr}(ts:List Nat):zgc n0 nt fr G (Am.keep fr ts) G:=λC a hF hR=>⟨C,⟨rfl,λ_ _ _ h=>⟨h,rfl⟩,λ_ _ h=>h⟩,⟨hF.defers,hF.size,λt x hx=>hF.slot t x (wew hx)⟩,hR⟩
theorem Go.keep{n0 nt:Nat}{rets:List RV}{R:AV->jb->Prop}{K:List AK}{fr:Fr}(ts:List Nat)(h:Go P n0 nt rets R K (Am.keep fr ts) G):Go P n0 nt rets R K fr G:=.shift (zgc.keep ts) h

end Go.Proofs.YtedaadaaibofaaaGreat.Am
namespace Go.Proofs.YtedaadaaibofaaaGreat.Am
open Go.RowKit

def E(G:jb)(l:List (Nat×List (List Ce))):jb:=⟨G.next+l.length,λid=>if id<G.next then G.get id else l[id-G.next]?⟩
variable {G:jb}{l:List (Nat×List (List Ce))}
theorem zan:(E G l).next=G.next+l.length:=rfl
variable {id:Nat}
theorem E_lt(h:id<G.next):(E G l).get id=G.get id:=if_pos h
theorem E_ge(h:¬id<G.next):(E G l).get id=l[id-G.next]?:=if_neg h
theorem E_at{k:Nat}:(E G l).get (G.next+k)=l[k]?:=by
 rw[E_ge O]
 congr 1
 omega
theorem jb.ext{V:jb}(h:G.next=V.next)(h2:∀id,G.get id=V.get id):G=V:=by
 cases G;cases V;simp only at h h2;subst h
 congr
 exact funext h2
variable {x:Nat×List (List Ce)}
theorem jgd(h:id=G.next):(G.new x).get id=some x:=if_pos h
theorem wi7(h:id≠G.next):(G.new x).get id=G.get id:=if_neg h
theorem wgd{j:Nat}(h:j=id):(G.put id x).get j=some x:=if_pos h
theorem zi8{j:Nat}(h:j≠id):(G.put id x).get j=G.get j:=if_neg h
theorem jc2(h:OldS G):E G []=G:=by
 refine jb.ext rfl λid=>?_;by_cases hn:id<G.next
 ·rw[E_lt hn]
 ·rw[E_ge hn]
  cases hg:G.get id with
  |none=>simp
  |some y=>exact absurd (h id y hg).1 hn
theorem ji8:(E G l).new x=E G (l++[x]):=by
 refine jb.ext (by simp[E,jb.new];omega) λid=>?_;by_cases e:id=G.next+l.length
 ·rw[jgd (by rw[zan];exact e)];subst e;rw[E_at];simp
 ·rw[wi7 (by rw[zan];exact e)];by_cases hn:id<G.next
  ·rw[E_lt hn,E_lt hn]
  ·rw[E_ge hn,E_ge hn,List.getElem?_append];split
   ·rfl
   ·rename_i h2;have:id-G.next-l.length≠0:=O;rw[List.getElem?_eq_none O];rw[List.getElem?_eq_none gq]
theorem wi8{k:Nat}(hk:k<l.length){x:Nat×List (List Ce)}:(E G l).put (G.next+k) x=E G (l.set k x):=by
 refine jb.ext (by simp[E,jb.put]) λid=>?_;by_cases e:id=G.next+k
 ·subst e;rw[wgd rfl,E_at];simp[hk]
 ·rw[zi8 e];by_cases hn:id<G.next
  ·rw[E_lt hn,E_lt hn]
  ·rw[E_ge hn,E_ge hn,List.getElem?_set_ne O]
theorem E_E{m:List (Nat×List (List Ce))}:E (E G l) m=E G (l++m):=by
 refine jb.ext (by simp[E];omega) λid=>?_;by_cases hn:id<G.next
 ·rw[E_lt (by rw[zan];omega),E_lt hn,E_lt hn]
 ·rw[E_ge hn,List.getElem?_append];by_cases h2:id<G.next+l.length
  ·rw[E_lt (by rw[zan];omega),E_ge hn,if_pos O]
  ·rw[E_ge (by rw[zan];omega),if_neg O];rw[zan]
   congr 1
   omega

theorem zgc.frz{n0 nt n:Nat}{fr fr':Fr}{G G2:jb}(h1:∀t x,look fr' t=some x->∃y,look fr t=some y/\FrzV G n y x)(hnext:G2.next=n)
 (hsub:∀id y,G2.get id=some y->G.get id=some y/\id<n/\∀i j (hi:i<y.2.length) (hj:j<y.2[i].length),Old n y.2[i][j]) (hn:n0<=n):zgc n0 nt fr G fr' G2:=by
 intro C a hF hR
 let D:Cx:=⟨C.μ,λid v=>C.F id v/\id<n,Mof C.μ G2,C.w⟩
 have hMsub:∀b,D.M b->C.M b:=by
  rintro b ⟨id,v',es,hg,hne,rfl⟩;exact(hR.M _).2 ⟨id,v',es,(hsub id _ hg).1,hne,rfl⟩
 have hcut:∀{x:Ce} {u:Value},Rp C x u->Old n x->Rp D x u:=λhx ho=>Rp.cut (C:=C) (D:=D) rfl rfl (λid v hf hlt=>⟨hf,hlt⟩) hMsub hx ho;refine⟨D,⟨rfl,λid v hlt hf=>⟨⟨hf,O⟩,rfl⟩,λb _ hm=>hMsub b hm⟩,⟨hF.defers,hF.size,λt x hx=>?_⟩,⟨λid v hf=>by rw[hnext];exact hf.2,λid v' es hg=>?_,λb=>Iff.rfl,λid v es id' v' es' h1 n1 h2 n2 hb=>?_,λid v' es hg hne=>?_⟩⟩
 ·obtain⟨y,hy,hz⟩:=h1 t x hx;obtain⟨q1,q2⟩:=hF.slot t y hy;refine⟨q1,hz.sound (D:=D) hR rfl rfl (λid v hf hlt=>⟨hf,hlt⟩) hMsub (λid v' es hn hg hne hm=>?_) q2⟩;obtain⟨id2,v2,es2,hg2,hne2,hb⟩:=hm;have g:=hsub id2 _ hg2;have:=hR.inj id v' es id2 v2 es2 hg hne g.1 hne2 hb.symm;omega
 ·obtain⟨g1,g2,_⟩:=hsub id _ hg;obtain⟨a1,a2,a3⟩:=hR.live id v' es g1;exact⟨⟨a1,g2⟩,λv1 hv1=>a2 v1 hv1.1,a3⟩
 ·exact hR.inj id v es id' v' es' (hsub id _ h1).1 n1 (hsub id' _ h2).1 n2 hb
 ·obtain⟨g1,g2,g3⟩:=hsub id _ hg;obtain⟨cs,t,hb,hz,hl,hc⟩:=hR.blk id v' es g1 hne;refine⟨cs,t,hb,hz,hl,λi j hi hj=>?_⟩;obtain⟨u,h1,h2⟩:=hc i j hi hj;exact⟨u,h1,hcut h2 (g3 i j hi hj)⟩

theorem Old.mono{n m:Nat}(h:n<=m){x:Ce}(ho:Old n x):Old m x:=by
 induction ho with
 |int k i=>exact .int k i
 |bool b=>exact .bool b
 |str s=>exact .str s
 |nilp=>exact .nilp
 |nils=>exact .nils
 |nilf=>exact .nilf
 |emp=>exact .emp
 |any=>exact .any
 |fz es _ ih=>exact .fz es ih
 |fp cs _ ih=>exact .fp cs ih
 |sl id v i m c hlt=>exact .sl _ _ _ _ _ O
 |ptr id v i j hlt=>exact .ptr _ _ _ _ O
 |fn f pre cap _ _ ih1 ih2=>exact .fn f pre cap ih1 ih2
theorem FrzV.refl{G:jb}{n:Nat}:∀{x:AV},(∀y∈x.all,Old n y)->FrzV G n x x
 |.c x,h=>.c (.same x (h x (by simp[AV.all])))
 |.agg xs,h=>.agg rfl λi hi=>.same _ (h _ (by simp[AV.all]))
 |.tup vs,h=>.tup rfl λi hi=>FrzV.refl (x:=vs[i]) λy hy=>h y (by
  simp only[AV.all];have:∀(vs:List AV) (i:Nat) (hi:i<vs.length),y∈vs[i].all->y∈AV.all.allL vs:=by
   intro vs
   induction vs with
   |nil=>intro i hi;simp at hi
   |cons v r ih=>
    intro i hi hy;simp only[AV.all.allL,List.mem_append]
    cases i with
    |zero=>exact .inl hy
    |succ i=>exact .inr (ih i (by simpa using hi) hy)
  exact this vs i hi hy)
 |.un,h=>.un _
termination_by x=>SizeOf.sizeOf x
decreasing_by
 have:=List.sizeOf_lt_of_mem (yaa hi);simp;omega

section
variable {P:Program}{n0 nt:Nat}{rets:List RV}{R:AV->jb->Prop}{K:List AK}{fr:Fr}{G:jb}
variable {rest:List jd}
theorem Go.var{d s i:Nat}{z cs:List Ce}{w:AV}(h0:n0<=G.next)(hi:i≠d)(hw:look fr i=some w)(hx:w.cells=some cs)(hl:cs.length=s)(hz:z.length=s)
 (h:Go P n0 nt rets R (.ops rest::K) ((d,.c (.fp cs))::fr) G):Go P n0 nt rets R (.ops (⟨some d,.op (.alloc z),none⟩::⟨none,.op (.store s (.t d) (.t i)),none⟩::rest)::K) fr G:=by
 refine .old λho hS=>.op (v:=.c (.ptr G.next 0 0 0)) (G':=G.new (0,[z])) rfl rfl (.op (v:=.un) (G':=(G.new (0,[z])).put G.next (0,[cs])) rfl ?_ (.shift (fr':=(d,.c (.fp cs))::fr) (G':=G) ?_ h))
 ·have e1:(Opd.t d).ev (putA fr (some d) (.c (.ptr G.next 0 0 0)))=some (.c (.ptr G.next 0 0 0)):=by simp[Opd.ev,putA,look]
  have e0:(Opd.t i).ev (putA fr (some d) (.c (.ptr G.next 0 0 0)))=some w:=by simp[Opd.ev,putA,look,Ne.symm hi,hw]
  have e2:(G.new (0,[z])).get G.next=some (0,[z]):=jgd rfl;have e3:jh z 0 cs=cs:=by
   simp only[jh,List.take_zero,List.nil_append,Nat.zero_add];rw[yad O];simp
  simp[aop,e1,e0,hx,e2,hl,hz,e3]
 ·refine zgc.frz (n:=G.next) (λt y hy=>?_) rfl (λid y hg=>?_) h0
  ·simp only[look]at hy;split at hy
   ·rename_i e;subst e;injection hy with hy;subst hy;refine⟨.c (.ptr G.next 0 0 0),by simp[putA,look],.c (.ptr G.next 0 0 0 [cs] cs cs (Nat.le_refl _) (wgd rfl) rfl gx λk hk=>?_)⟩;simp only[Nat.zero_add];refine .same _ (ho i w hw _ ?_)
    cases w<;>simp[AV.cells]at hx<;>subst hx<;>simp[AV.all]
   ·rename_i e;exact⟨y,by simp[putA,look,e,hy],.refl (ho t y hy)⟩
  ·obtain⟨q1,q2⟩:=hS id y hg;refine⟨?_,q1,q2⟩;rw[zi8 O,wi7 O];exact hg
theorem Go.var2{d s i e:Nat}{z cs:List Ce}{w u:AV}{k:Nat}(h0:n0<=G.next)(hi:i≠d)(hie:i≠e)(hde:d≠e)(hyd:k≠d)(hy:look fr k=some u)(hw:look fr i=some w)(hx:w.cells=some cs)(hl:cs.length=s)(hz:z.length=s)
 (h:Go P n0 nt rets R (.ops rest::K) ((e,u)::(d,.c (.fp cs))::fr) G):Go P n0 nt rets R (.ops (⟨some d,.op (.alloc z),none⟩::⟨some e,.op (.mv (.t k)),none⟩::⟨none,.op (.store s (.t d) (.t i)),none⟩::rest)::K) fr G:=by
 refine .old λho hS=>.op (v:=.c (.ptr G.next 0 0 0)) (G':=G.new (0,[z])) rfl rfl (.op (v:=u) (G':=G.new (0,[z])) rfl (by simp[aop,Opd.ev,look,putA,Ne.symm hyd,hy]) (.op (v:=.un) (G':=(G.new (0,[z])).put G.next (0,[cs])) rfl ?_ (.shift (fr':=(e,u)::(d,.c (.fp cs))::fr) (G':=G) ?_ h)))
 ·have e1:(Opd.t d).ev (putA (putA fr (some d) (.c (.ptr G.next 0 0 0))) (some e) u)=some (.c (.ptr G.next 0 0 0)):=by simp[Opd.ev,putA,look,Ne.symm hde]
  have e0:(Opd.t i).ev (putA (putA fr (some d) (.c (.ptr G.next 0 0 0))) (some e) u)=some w:=by simp[Opd.ev,putA,look,Ne.symm hi,Ne.symm hie,hw]
  have e2:(G.new (0,[z])).get G.next=some (0,[z]):=jgd rfl;have e3:jh z 0 cs=cs:=by
   simp only[jh,List.take_zero,List.nil_append,Nat.zero_add];rw[yad O];simp
  simp[aop,e1,e0,hx,e2,hl,hz,e3]
 ·have hu:∀c∈u.all,Old G.next c:=ho k u hy;refine zgc.frz (n:=G.next) (λt y hy=>?_) rfl (λid y hg=>?_) h0
  ·simp only[look]at hy;split at hy
   ·rename_i e1;subst e1;injection hy with hy;subst hy;exact⟨u,by simp[putA,look],.refl hu⟩
   ·rename_i e1;split at hy
    ·rename_i e;subst e;injection hy with hy;subst hy;refine⟨.c (.ptr G.next 0 0 0),by simp[putA,look,e1],.c (.ptr G.next 0 0 0 [cs] cs cs (Nat.le_refl _) (wgd rfl) rfl gx λk hk=>?_)⟩;simp only[Nat.zero_add];refine .same _ (ho i w hw _ ?_)
     cases w<;>simp[AV.cells]at hx<;>subst hx<;>simp[AV.all]
    ·rename_i e;exact⟨y,by simp[putA,look,e,e1,hy],.refl (ho t y hy)⟩
  ·obtain⟨q1,q2⟩:=hS id y hg;refine⟨?_,q1,q2⟩;rw[zi8 O,wi7 O];exact hg
end

end Go.Proofs.YtedaadaaibofaaaGreat.Am
namespace Go.Proofs.YtedaadaaibofaaaGreat.Am
open Go.RowKit

def vec(id v:Nat)(ys junk:List (List Ce)):Ce:=.sl id v 0 ys.length (ys.length+junk.length)

inductive Flat:Ce->Prop where
 |int (k:IntKind) (m:Int):Flat (.int k m)
 |bool (b:Bool):Flat (.bool b)
 |str (s:List UInt8):Flat (.str s)
 |nilp:Flat .nilp
 |nils:Flat .nils
 |nilf:Flat .nilf
 |emp:Flat .emp
 |any:Flat .any
def Jk(s:Nat)(junk:List (List Ce)):Prop:=∀e∈junk,e.length=s/\∀x∈e,Flat x
theorem Jk.nil{s:Nat}:Jk s []:=λe he=>by simp at he

structure Pure(P:Program)(f:Nat)(args:List AV)(r:AV):Prop where
 at_:∀G,Ok P f args G (λr' G'=>r'=r/\G'=G)
def Fin(G:jb)(r2:AV)(r:AV)(G':jb):Prop:=∃l,G'=E G l/\FrzV G' G.next r r2
theorem Ok.old{P:Program}{fz:List Nat}{f:Nat}{af:AFn}(h:ze P fz f=some af){args:List AV}{G:jb}{Q:AV->jb->Prop}(hk:OldS G->(∀x∈args,∀y∈x.all,Old G.next y)->Ok P f args G Q):Ok P f args G Q:=by
 refine⟨?_,λC cargs hR ha=>?_⟩
 ·unfold ze at h;split at h
  ·rename_i fn hf;split at h
   ·rename_i c hb;split at h
    ·cases h
    ·rename_i hname;exact⟨fn,hf,by rw[hb];rfl,by simpa using hname⟩
   ·cases h
  ·cases h
 ·obtain⟨hl,hv⟩:=ha;refine(hk hR.old λx hx y hy=>?_).2 C cargs hR ⟨hl,hv⟩;obtain⟨i,hi,rfl⟩:=List.mem_iff_getElem.1 hx;exact(hv i hi).old hR.F y hy
variable {P:Program}
theorem Ok.run(hm:P.follows .mixedOrders=true){fz:List Nat}{f:Nat}{af:AFn}(h:ze P fz f=some af){args:List AV}{G:jb}{R:AV->jb->Prop}(hn:args.length<=af.nt)
 (hg:OldS G->(∀x∈args,∀y∈x.all,Old G.next y)->Go P G.next af.nt af.rets R [.code af.body] (frOf 0 args) (E G [])):Ok P f args G R:=
 .old h λhS ha=>.of_go hm h hn (by have:=hg hS ha;rwa [jc2 hS]at this)
theorem Pure.run(hm:P.follows .mixedOrders=true){fz:List Nat}{f:Nat}{af:AFn}(h:ze P fz f=some af){args:List AV}{r2:AV}(hn:args.length<=af.nt)
 (hg:∀G,OldS G->(∀x∈args,∀y∈x.all,Old G.next y)->Go P G.next af.nt af.rets (Fin G r2) [.code af.body] (frOf 0 args) (E G [])):Pure P f args r2:=by
 constructor;intro G;refine .old h λhS ha=>?_;refine Ok.pure (Ok.run hm h hn (hg G)) r2 (λid y hy=>(hS id y hy).1) ?_;rintro r G1 ⟨l,rfl,hz⟩;exact⟨λid y hy=>by rw[E_lt (hS id y hy).1];exact hy,hz⟩

def Made(G:jb)(s:Nat)(ys:List (List Ce))(r:AV)(G':jb):Prop:=∃v junk,Jk s junk/\r=.c (vec (G.next+0) v ys junk)/\G'=E G [(v,ys++junk)]
structure jir(P:Program)(f:Nat)(args:List AV)(s:Nat)(ys:List (List Ce)):Prop where
 at_:∀G,Ok P f args G (Made G s ys)
theorem jir.run(hm:P.follows .mixedOrders=true){fz:List Nat}{f:Nat}{af:AFn}(h:ze P fz f=some af){args:List AV}{s:Nat}{ys:List (List Ce)}(hn:args.length<=af.nt)
 (hg:∀G,OldS G->(∀x∈args,∀y∈x.all,Old G.next y)->Go P G.next af.nt af.rets (Made G s ys) [.code af.body] (frOf 0 args) (E G [])):jir P f args s ys:=
 ⟨λG=>Ok.run hm h hn (hg G)⟩

variable {G:jb}{l:List (Nat×List (List Ce))}{r:AV}
theorem Fin.same{r2:AV}(e:r=r2)(h:∀y∈r2.all,Old G.next y):Fin G r2 r (E G l):=by
 subst e;exact⟨l,rfl,.refl h⟩
theorem Fin.bool{b b2:Bool}(e:b=b2):Fin G (.c (.bool b2)) (.c (.bool b)) (E G l):=
 .same (by rw[e]) (by intro y hy;simp[AV.all]at hy;subst hy;exact .bool _)
theorem Fin.int{k:IntKind}{b b2:Int}(e:b=b2):Fin G (.c (.int k b2)) (.c (.int k b)) (E G l):=
 .same (by rw[e]) (by intro y hy;simp[AV.all]at hy;subst hy;exact .int _ _)
section
variable {P:Program}{n0 nt:Nat}{rets:List RV}{R:AV->jb->Prop}{K:List AK}{fr:Fr}{G:jb}
theorem Go.ite{c:Opd}{a b:AC}(t:Bool)(h:c.ev fr=some (.c (.bool t)))(h1:t=true->Go P n0 nt rets R (.code a::K) fr G)(h2:t=false->Go P n0 nt rets R (.code b::K) fr G):Go P n0 nt rets R (.code (.cond c a b)::K) fr G:=by
 refine .cond t h ?_
 cases t
 ·exact h2 rfl
 ·exact h1 rfl
theorem Go.iteD{c:Opd}{a b:AC}{p:Prop}{i:Decidable p}(h:c.ev fr=some (.c (.bool (@decide p i))))(h1:p->Go P n0 nt rets R (.code a::K) fr G)(h2:¬p->Go P n0 nt rets R (.code b::K) fr G):Go P n0 nt rets R (.code (.cond c a b)::K) fr G:=
 .ite _ h (λe=>h1 (of_decide_eq_true e)) (λe=>h2 (of_decide_eq_false e))
theorem Go.pcall{d:Option Nat}{f:Opd}{args:List Opd}{g:Option (Nat×Bool)}{rest:List jd}{n:Nat}{pre cap:List Ce}{vs:List AV}{r:AV}(hw:wants fr g=some true)(hf:f.ev fr=some (.c (.fn n pre cap)))(ha:evs fr args=some vs)
 (hp:Pure P n (pre.map .c++vs++cap.map .c) r) (h:Go P n0 nt rets R (.ops rest::K) (putA fr d r) G):Go P n0 nt rets R (.ops (⟨d,.call f args,g⟩::rest)::K) fr G:=
 .call _ hw hf ha (hp.at_ G) (by rintro r' G' ⟨rfl,rfl⟩;exact h)
theorem Go.spcall{d:Option Nat}{f:Opd}{args:List Opd}{g:Option (Nat×Bool)}{rest:List (List jd)}{n:Nat}{pre cap:List Ce}{vs:List AV}{r:AV}(hw:wants fr g=some true)(hf:f.ev fr=some (.c (.fn n pre cap)))(ha:evs fr args=some vs)
 (hp:Pure P n (pre.map .c++vs++cap.map .c) r) (h:Go P n0 nt rets R (.segs rest::K) (putA fr d r) G):Go P n0 nt rets R (.segs ([⟨d,.call f args,g⟩]::rest)::K) fr G:=
 .scall _ hw hf ha (hp.at_ G) (by rintro r' G' ⟨rfl,rfl⟩;exact h)
def Qg(P:Program)(G:jb)(l:List jd)(fr:Fr)(Post:Fr->Prop):Prop:=∃F,Qs P G l fr F/\Post F
theorem Go.qs{s1 s2:jd}{seg:List jd}{rest:List (List jd)}(h:Qg P G (s1::s2::seg) fr λF=>Go P n0 nt rets R (.segs rest::K) F G):Go P n0 nt rets R (.segs ((s1::s2::seg)::rest)::K) fr G:=
 let⟨_,h1,h2⟩:=h
 .quiet h1 h2
theorem Qg.nil{Post:Fr->Prop}(h:Post fr):Qg P G [] fr Post:=⟨fr,.nil,h⟩
theorem Qg.op{d:Option Nat}{o:AOp}{g:Option (Nat×Bool)}{rest:List jd}{v:AV}{Post:Fr->Prop}(hw:wants fr g=some true)(ha:aop o fr G=some (v,G))(h:Qg P G rest (putA fr d v) Post):Qg P G (⟨d,.op o,g⟩::rest) fr Post:=
 let⟨F,h1,h2⟩:=h
 ⟨F,.op hw ha h1,h2⟩
theorem Qg.no{d:Option Nat}{o:AO}{g:Option (Nat×Bool)}{rest:List jd}{Post:Fr->Prop}(hw:wants fr g=some false)(h:Qg P G rest (putA fr d (.tup [])) Post):Qg P G (⟨d,o,g⟩::rest) fr Post:=
 let⟨F,h1,h2⟩:=h
 ⟨F,.no hw h1,h2⟩
theorem Qg.pcall{d:Option Nat}{f:Opd}{args:List Opd}{g:Option (Nat×Bool)}{rest:List jd}{n:Nat}{pre cap:List Ce}{vs:List AV}{r:AV}{Post:Fr->Prop}(hw:wants fr g=some true)(hf:f.ev fr=some (.c (.fn n pre cap)))(ha:evs fr args=some vs)
 (hp:Pure P n (pre.map .c++vs++cap.map .c) r) (h:Qg P G rest (putA fr d r) Post):Qg P G (⟨d,.call f args,g⟩::rest) fr Post:=
 let⟨F,h1,h2⟩:=h
 ⟨F,.call hw hf ha (hp.at_ G) h1,h2⟩

variable {d:Option Nat}{f:Opd}{args:List Opd}{g:Option (Nat×Bool)}{rest:List jd}{n:Nat}{pre cap:List Ce}{vs:List AV}{B:Bool}
theorem Go.pcallB(hw:wants fr g=some true)(hf:f.ev fr=some (.c (.fn n pre cap)))(ha:evs fr args=some vs)
 (hp:Pure P n (pre.map .c++vs++cap.map .c) (.c (.bool B))) (h:∀b,B=b->Go P n0 nt rets R (.ops rest::K) (putA fr d (.c (.bool b))) G):Go P n0 nt rets R (.ops (⟨d,.call f args,g⟩::rest)::K) fr G:=
 Go.pcall hw hf ha hp (h B rfl)
theorem Go.spcallB{rest:List (List jd)}(hw:wants fr g=some true)(hf:f.ev fr=some (.c (.fn n pre cap)))(ha:evs fr args=some vs)
 (hp:Pure P n (pre.map .c++vs++cap.map .c) (.c (.bool B))) (h:∀b,B=b->Go P n0 nt rets R (.segs rest::K) (putA fr d (.c (.bool b))) G):Go P n0 nt rets R (.segs ([⟨d,.call f args,g⟩]::rest)::K) fr G:=
 Go.spcall hw hf ha hp (h B rfl)
variable {Post:Fr->Prop}
theorem Qg.pcallB(hw:wants fr g=some true)(hf:f.ev fr=some (.c (.fn n pre cap)))(ha:evs fr args=some vs)
 (hp:Pure P n (pre.map .c++vs++cap.map .c) (.c (.bool B))) (h:∀b,B=b->Qg P G rest (putA fr d (.c (.bool b))) Post):Qg P G (⟨d,.call f args,g⟩::rest) fr Post:=
 Qg.pcall hw hf ha hp (h B rfl)
variable {k:IntKind}
theorem Go.pcallI{B:Int}(hw:wants fr g=some true)(hf:f.ev fr=some (.c (.fn n pre cap)))(ha:evs fr args=some vs)
 (hp:Pure P n (pre.map .c++vs++cap.map .c) (.c (.int k B))) (h:∀b,B=b->Go P n0 nt rets R (.ops rest::K) (putA fr d (.c (.int k b))) G):Go P n0 nt rets R (.ops (⟨d,.call f args,g⟩::rest)::K) fr G:=
 Go.pcall hw hf ha hp (h B rfl)
theorem Go.spcallI{rest:List (List jd)}{B:Int}(hw:wants fr g=some true)(hf:f.ev fr=some (.c (.fn n pre cap)))(ha:evs fr args=some vs)
 (hp:Pure P n (pre.map .c++vs++cap.map .c) (.c (.int k B))) (h:∀b,B=b->Go P n0 nt rets R (.segs rest::K) (putA fr d (.c (.int k b))) G):Go P n0 nt rets R (.segs ([⟨d,.call f args,g⟩]::rest)::K) fr G:=
 Go.spcall hw hf ha hp (h B rfl)
theorem Qg.pcallI{B:Int}(hw:wants fr g=some true)(hf:f.ev fr=some (.c (.fn n pre cap)))(ha:evs fr args=some vs)
 (hp:Pure P n (pre.map .c++vs++cap.map .c) (.c (.int k B))) (h:∀b,B=b->Qg P G rest (putA fr d (.c (.int k b))) Post):Qg P G (⟨d,.call f args,g⟩::rest) fr Post:=
 Qg.pcall hw hf ha hp (h B rfl)
variable {t:Nat}
theorem zbj{x:AV}(h:look fr t=some x)(u:Nat):look ((t,x)::fr) u=look fr u:=by
 simp only[look];split
 ·rename_i e;subst e;exact h.symm
 ·rfl
theorem Go.same{fr':Fr}(h:∀t,look fr' t=look fr t)(hg:Go P n0 nt rets R K fr' G):Go P n0 nt rets R K fr G:=
 .shift (λC a hF hR=>⟨C,⟨rfl,λ_ _ _ h=>⟨h,rfl⟩,λ_ _ h=>h⟩,⟨hF.defers,hF.size,λt x hx=>hF.slot t x (by rw[<-h t];exact hx)⟩,hR⟩) hg
variable {o:AO}{b:Bool}
theorem Go.guard(B:Bool)(h:look fr t=some (.c (.bool B)))(h1:B=true->Go P n0 nt rets R (.ops (⟨d,o,some (t,b)⟩::rest)::K) ((t,.c (.bool true))::fr) G)(h2:B=false->Go P n0 nt rets R (.ops (⟨d,o,some (t,b)⟩::rest)::K) ((t,.c (.bool false))::fr) G):
 Go P n0 nt rets R (.ops (⟨d,o,some (t,b)⟩::rest)::K) fr G:=by
 cases B
 ·exact .same (zbj h) (h2 rfl)
 ·exact .same (zbj h) (h1 rfl)
theorem Go.sguard{rest:List (List jd)}(B:Bool)(h:look fr t=some (.c (.bool B)))(h1:B=true->Go P n0 nt rets R (.segs ([⟨d,o,some (t,b)⟩]::rest)::K) ((t,.c (.bool true))::fr) G)(h2:B=false->Go P n0 nt rets R (.segs ([⟨d,o,some (t,b)⟩]::rest)::K) ((t,.c (.bool false))::fr) G):
 Go P n0 nt rets R (.segs ([⟨d,o,some (t,b)⟩]::rest)::K) fr G:=by
 cases B
 ·exact .same (zbj h) (h2 rfl)
 ·exact .same (zbj h) (h1 rfl)
theorem Qg.guard(B:Bool)(h:look fr t=some (.c (.bool B)))(h1:B=true->Qg P G (⟨d,o,some (t,b)⟩::rest) ((t,.c (.bool true))::fr) Post)(h2:B=false->Qg P G (⟨d,o,some (t,b)⟩::rest) ((t,.c (.bool false))::fr) Post):
 Qg P G (⟨d,o,some (t,b)⟩::rest) fr Post:=by
 have key:∀{fr'},(∀t,look fr' t=look fr t)->Qg P G (⟨d,o,some (t,b)⟩::rest) fr' Post->Qg P G (⟨d,o,some (t,b)⟩::rest) fr Post:=λhe ⟨F,q1,q2⟩=>⟨F,.same he q1,q2⟩
 cases B
 ·exact key (zbj h) (h2 rfl)
 ·exact key (zbj h) (h1 rfl)
theorem Go.loops{body:AC}{I:Nat->Fr->jb->Prop}(h:∀m fr G,I m fr G->(∀m' fr' G',m'<m->I m' fr' G'->Go P n0 nt rets R (.lp body::K) fr' G')->Go P n0 nt rets R (.code body::.lp body::K) fr G)
 (m:Nat) (fr:Fr) (G:jb) (hI:I m fr G):Go P n0 nt rets R (.code (.loop body)::K) fr G:=by
 have key:∀m fr G,I m fr G->Go P n0 nt rets R (.code body::.lp body::K) fr G:=by
  intro m
  induction m using Nat.strongRecOn with
  |_ m ih=>exactλfr G hI=>h m fr G hI λm' fr' G' hlt hI'=>.lp (ih m' hlt fr' G' hI')
 exact .loop (key m fr G hI)

theorem zky{l:List (Nat×List (List Ce))}{x:Opd}{v:AV}{cs:List Ce}(hx:x.ev fr=some v)(hc:v.cells=some cs):aop (.box false x) fr (E G l)=some (.c (.ptr (G.next+l.length) 0 0 0),E G (l++[(0,[cs])])):=by
 simp[aop,hx,hc,ji8,zan]
theorem zg3{l:List (Nat×List (List Ce))}{z:List Ce}:aop (.alloc z) fr (E G l)=some (.c (.ptr (G.next+l.length) 0 0 0),E G (l++[(0,[z])])):=by
 simp[aop,ji8,zan]
theorem wj5{l:List (Nat×List (List Ce))}{s n:Nat}{z:List Ce}{ps:List (Nat×Opd)}{es:List (List Ce)}(h:wf9 fr s (List.replicate n z) ps=some es):aop (.mksl false s n z ps) fr (E G l)=some (.c (.sl (G.next+l.length) 0 0 n n),E G (l++[(0,es)])):=by
 simp[aop,h,ji8,zan]
variable {s v:Nat}{a:Opd}{es:List (List Ce)}{e:List Ce}
theorem zaj{g:Bool}{k i j:Nat}{x:AV}(ha:a.ev fr=some (.c (.ptr (G.next+k) v i j)))(hl:l[k]?=some (v,es))(he:es[i]?=some e)(hj:j<=e.length)(hx:wbw g s (e.drop j)=some x):
 aop (.load g s a) fr (E G l)=some (x,E G l):=by
 simp[aop,ha,jb.at_,E_at,hl,he,hj,hx]
variable {y:Opd}
theorem zl{k i j:Nat}{cs:List Ce}{x:AV}(ha:a.ev fr=some (.c (.ptr (G.next+k) v i j)))(hy:y.ev fr=some x)(hc:x.cells=some cs)(hl:l[k]?=some (v,es))(he:es[i]?=some e)(hs:cs.length=s)(hj:j+s<=e.length):
 aop (.store s a y) fr (E G l)=some (.un,E G (l.set k (v,es.set i (jh e j cs)))):=by
 have hk:k<l.length:=(List.getElem?_eq_some_iff.1 hl).1;simp[aop,ha,hy,hc,E_at,hl,he,hs,hj,wi8 hk]
variable {x:Opd}{kd:IntKind}
theorem jaa{k i m c:Nat}{z:Int}(hx:x.ev fr=some (.c (.sl (G.next+k) v i m c)))(hy:y.ev fr=some (.c (.int kd z)))(hz:z=(n:Int))(hn:n<m)(hl:l[k]?=some (v,es)){e:List Ce}(he:es[i+n]?=some e)(hs:e.length=s):
 aop (.iaddr s x y) fr (E G l)=some (.c (.ptr (G.next+k) v (i+n) 0),E G l):=by
 subst hz;simp[aop,hx,hy,zgy,hn,E_at,hl,he,hs]
theorem wir{V:jb}{z:Int}(hx:x.ev fr=some (.c (.fz es)))(hy:y.ev fr=some (.c (.int kd z)))(hz:z=(n:Int))(he:es[n]?=some e)(hs:e.length=s):
 aop (.iaddr s x y) fr V=some (.c (.fp e),V):=by
 subst hz;simp[aop,hx,hy,zgy,he,hs]

theorem jf0{V:jb}{α:Type}{enc:α->List Ce}{xs:List α}{s n:Nat}{x y:Opd}{kd:IntKind}{z:Int}(hx:x.ev fr=some (.c (.fz (xs.map enc))))(hy:y.ev fr=some (.c (.int kd z)))(hz:z=(n:Int))(hn:n<xs.length)(hs:(enc xs[n]).length=s):
 aop (.iaddr s x y) fr V=some (.c (.fp (enc xs[n])),V):=
 wir hx hy hz (by simp[hn]) hs

theorem zj6{V:jb}{α:Type}{enc:α->List Ce}{xs:List α}{x:Opd}(hx:x.ev fr=some (.c (.fz (xs.map enc)))):aop (.len false x) fr V=some (.c (.int .i64 (xs.length:Int)),V):=by
 simp[aop,hx]

variable {u:Ce}{ys junk zs:List (List Ce)}
theorem jhs{bytes k:Nat}(hx:x.ev fr=some (.c (vec (G.next+k) v ys junk)))(hy:y.ev fr=some (.c u))(hu:(E G l).els u=some zs)(hl:l[k]?=some (v,ys++junk))
 (hys:∀e∈ys,e.length=s) (hj:Jk s junk) (hzs:∀e∈zs,e.length=s) (hb:(ys.length+zs.length)*bytes<=140737488355328):
 ∃v' junk',Jk s junk'/\aop (.app s bytes x y) fr (E G l)=some (.c (vec (G.next+k) v' (ys++zs) junk'),E G (l.set k (v',ys++zs++junk'))):=by
 have hk:k<l.length:=(List.getElem?_eq_some_iff.1 hl).1;have hall:∀e∈ys++junk,e.length=s:=by
  intro e he;rcases List.mem_append.1 he with h|h
  ·exact hys e h
  ·exact(hj e h).1
 have hns:∀b,u≠.str b:=by
  rintro b rfl;simp[jb.els]at hu
 have h0:aop (.app s bytes x y) fr (E G l)=(((E G l).els u).bind (appA (E G l) s bytes (vec (G.next+k) v ys junk))).map λr=>(.c r.1,r.2):=by
  simp only[aop,hx,hy]
 rw[h0,hu];simp only[Option.bind_some];by_cases c:zs.length<=junk.length
 ·refine⟨v,junk.drop zs.length,λe he=>hj e (ybp he), ?_⟩;have e2:jh (ys++junk) (0+ys.length) zs=ys++zs++junk.drop zs.length:=by
   simp only[jh,Nat.zero_add,List.take_left',List.drop_append,Nat.add_sub_cancel_left];rw[yad O];simp
  have c2:ys.length+zs.length<=ys.length+junk.length:=O;have e1:appA (E G l) s bytes (vec (G.next+k) v ys junk) zs=some (.sl (G.next+k) v 0 (ys.length+zs.length) (ys.length+junk.length),(E G l).put (G.next+k) (v,jh (ys++junk) (0+ys.length) zs)):=by
   unfold appA vec;rw[if_pos hzs];simp only[E_at,hl];rw[if_pos ⟨trivial,gx,O,hall⟩,if_pos c2]
  rw[e1,e2,wi8 hk];simp only[Option.map_some,vec,List.length_append,List.length_drop];rw[show ys.length+zs.length+(junk.length-zs.length)=ys.length+junk.length by omega]
 ·refine⟨v+1,[],Jk.nil, ?_⟩;have c2:¬ys.length+zs.length<=ys.length+junk.length:=O;have e1:appA (E G l) s bytes (vec (G.next+k) v ys junk) zs=some (.sl (G.next+k) (v+1) 0 (ys.length+zs.length) (ys.length+zs.length),(E G l).put (G.next+k) (v+1,((ys++junk).drop 0).take ys.length++zs)):=by
   unfold appA vec;rw[if_pos hzs];simp only[E_at,hl];rw[if_pos ⟨trivial,gx,O,hall⟩,if_neg c2,if_pos hb]
  rw[e1,wi8 hk];simp[vec]
theorem Go.app{bytes k:Nat}(hw:wants fr g=some true)(hx:x.ev fr=some (.c (vec (G.next+k) v ys junk)))(hy:y.ev fr=some (.c u))(hu:(E G l).els u=some zs)(hl:l[k]?=some (v,ys++junk))
 (hys:∀e∈ys,e.length=s) (hj:Jk s junk) (hzs:∀e∈zs,e.length=s) (hb:(ys.length+zs.length)*bytes<=140737488355328)
 (h:∀v' junk',Jk s junk'->Go P n0 nt rets R (.ops rest::K) (putA fr d (.c (vec (G.next+k) v' (ys++zs) junk'))) (E G (l.set k (v',ys++zs++junk')))):
 Go P n0 nt rets R (.ops (⟨d,.op (.app s bytes x y),g⟩::rest)::K) fr (E G l):=by
 obtain⟨v',junk',h1,h2⟩:=jhs hx hy hu hl hys hj hzs hb;exact .op hw h2 (h v' junk' h1)
theorem Go.sapp{rest:List (List jd)}{bytes k:Nat}(hw:wants fr g=some true)(hx:x.ev fr=some (.c (vec (G.next+k) v ys junk)))(hy:y.ev fr=some (.c u))(hu:(E G l).els u=some zs)(hl:l[k]?=some (v,ys++junk))
 (hys:∀e∈ys,e.length=s) (hj:Jk s junk) (hzs:∀e∈zs,e.length=s) (hb:(ys.length+zs.length)*bytes<=140737488355328)
 (h:∀v' junk',Jk s junk'->Go P n0 nt rets R (.segs rest::K) (putA fr d (.c (vec (G.next+k) v' (ys++zs) junk'))) (E G (l.set k (v',ys++zs++junk')))):
 Go P n0 nt rets R (.segs ([⟨d,.op (.app s bytes x y),g⟩]::rest)::K) fr (E G l):=by
 obtain⟨v',junk',h1,h2⟩:=jhs hx hy hu hl hys hj hzs hb;exact .sop hw h2 (h v' junk' h1)
theorem Go.app1{bytes k:Nat}{z:List Ce}(hw:wants fr g=some true)(hx:x.ev fr=some (.c (vec (G.next+k) v ys junk)))(hy:y.ev fr=some (.c u))(hu:(E G l).els u=some [z])(hl:l[k]?=some (v,ys++junk))
 (hys:∀e∈ys,e.length=s) (hj:Jk s junk) (hzs:z.length=s) (hb:(ys.length+1)*bytes<=140737488355328)
 (h:∀v' junk',Jk s junk'->Go P n0 nt rets R (.ops rest::K) (putA fr d (.c (vec (G.next+k) v' (ys++[z]) junk'))) (E G (l.set k (v',ys++[z]++junk')))):
 Go P n0 nt rets R (.ops (⟨d,.op (.app s bytes x y),g⟩::rest)::K) fr (E G l):=
 Go.app hw hx hy hu hl hys hj (by intro e he;simp at he;subst he;exact hzs) (by simpa using hb) h
theorem Go.sapp1{rest:List (List jd)}{bytes k:Nat}{z:List Ce}(hw:wants fr g=some true)(hx:x.ev fr=some (.c (vec (G.next+k) v ys junk)))(hy:y.ev fr=some (.c u))(hu:(E G l).els u=some [z])(hl:l[k]?=some (v,ys++junk))
 (hys:∀e∈ys,e.length=s) (hj:Jk s junk) (hzs:z.length=s) (hb:(ys.length+1)*bytes<=140737488355328)
 (h:∀v' junk',Jk s junk'->Go P n0 nt rets R (.segs rest::K) (putA fr d (.c (vec (G.next+k) v' (ys++[z]) junk'))) (E G (l.set k (v',ys++[z]++junk')))):
 Go P n0 nt rets R (.segs ([⟨d,.op (.app s bytes x y),g⟩]::rest)::K) fr (E G l):=
 Go.sapp hw hx hy hu hl hys hj (by intro e he;simp at he;subst he;exact hzs) (by simpa using hb) h
end

variable {n:Int}
theorem zk(h1:-9223372036854775808<=n)(h2:n<=9223372036854775807):IntKind.i64.wrap n=n:=by
 rw[IntKind.wrap_i64];omega

theorem wb{i:Nat}(h:n=i)(hb:i+1<=34359738368):IntKind.i64.wrap (n+1)=((i+1:Nat):Int):=by
 rw[zk O O];omega

theorem jg3{i:Nat}(h:n=((i+1:Nat):Int))(hb:i+1<=34359738368):IntKind.i64.wrap (n-1)=(i:Int):=by
 rw[zk O O];omega

section
variable {P:Program}{n0 nt:Nat}{rets:List RV}{R:AV->jb->Prop}{K:List AK}{fr:Fr}{G:jb}
def adm(fr:Fr):List AK->Option (List AK)
 |.code .skip::K=>some K
 |.code (.seq a b)::K=>some (.code a::.code b::K)
 |.code (.region l)::K=>some (.ops l::K)
 |.code (.draw s)::K=>some (.segs s::K)
 |.code (.block id c)::K=>some (.code c::.blk id::K)
 |.code (.exit id)::K=>wgb id K
 |.code (.cond c a b)::K=>match c.ev fr with
  |some (.c (.bool true))=>some (.code a::K)
  |some (.c (.bool false))=>some (.code b::K)
  |_=>none
 |.blk _::K=>some K
 |.ops []::K=>some K
 |.segs []::K=>some K
 |_=>none
theorem Go.adm{K':List AK}(h:adm fr K=some K')(g:Go P n0 nt rets R K' fr G):Go P n0 nt rets R K fr G:=by
 unfold Am.adm at h;split at h
 ·injection h with h;subst h;exact .skip g
 ·injection h with h;subst h;exact .seq g
 ·injection h with h;subst h;exact .region g
 ·injection h with h;subst h;exact .draw g
 ·injection h with h;subst h;exact .block g
 ·exact .exit h g
 ·split at h
  ·rename_i hc;injection h with h;subst h;exact .cond true hc g
  ·rename_i hc;injection h with h;subst h;exact .cond false hc g
  ·cases h
 ·injection h with h;subst h;exact .blk g
 ·injection h with h;subst h;exact .nil g
 ·injection h with h;subst h;exact .segs g
 ·cases h
inductive Bq:Bool->Prop->Prop->Prop where
 |d {p:Prop} {i:Decidable p}:Bq (@decide p i) p (¬p)
 |e {x y:Int}:Bq (x==y) (x=y) (¬x=y)
 |n {x y:Int}:Bq (x !=y) (¬x=y) (x=y)
 |b {B:Bool}:Bq B (B=true) (B=false)
theorem Bq.yes{B:Bool}{p r:Prop}(q:Bq B p r)(h:B=true):p:=by
 cases q
 ·exact of_decide_eq_true h
 ·exact eq_of_beq h
 ·simpa using h
 ·exact h
theorem Bq.no{B:Bool}{p r:Prop}(q:Bq B p r)(h:B=false):r:=by
 cases q
 ·exact of_decide_eq_false h
 ·simpa using h
 ·simpa using h
 ·exact h
theorem bqt:Bq true (true=true) (true=false):=.b
theorem bqf:Bq false (false=true) (false=false):=.b
theorem Go.iQ{c:Opd}{a b:AC}{B:Bool}{p r:Prop}(h:c.ev fr=some (.c (.bool B)))(q:Bq B p r)(h1:p->Go P n0 nt rets R (.code a::K) fr G)(h2:r->Go P n0 nt rets R (.code b::K) fr G):Go P n0 nt rets R (.code (.cond c a b)::K) fr G:=
 .ite B h (λe=>h1 (q.yes e)) (λe=>h2 (q.no e))
theorem Go.gQ{d:Option Nat}{o:AO}{t:Nat}{b:Bool}{rest:List jd}{B:Bool}{p r:Prop}(h:look fr t=some (.c (.bool B)))(q:Bq B p r)(h1:p->Go P n0 nt rets R (.ops (⟨d,o,some (t,b)⟩::rest)::K) ((t,.c (.bool true))::fr) G)(h2:r->Go P n0 nt rets R (.ops (⟨d,o,some (t,b)⟩::rest)::K) ((t,.c (.bool false))::fr) G):
 Go P n0 nt rets R (.ops (⟨d,o,some (t,b)⟩::rest)::K) fr G:=.guard B h (λe=>h1 (q.yes e)) (λe=>h2 (q.no e))
theorem Go.sQ{d:Option Nat}{o:AO}{t:Nat}{b:Bool}{rest:List (List jd)}{B:Bool}{p r:Prop}(h:look fr t=some (.c (.bool B)))(q:Bq B p r)(h1:p->Go P n0 nt rets R (.segs ([⟨d,o,some (t,b)⟩]::rest)::K) ((t,.c (.bool true))::fr) G)(h2:r->Go P n0 nt rets R (.segs ([⟨d,o,some (t,b)⟩]::rest)::K) ((t,.c (.bool false))::fr) G):
 Go P n0 nt rets R (.segs ([⟨d,o,some (t,b)⟩]::rest)::K) fr G:=.sguard B h (λe=>h1 (q.yes e)) (λe=>h2 (q.no e))
theorem Qg.gQ{d:Option Nat}{o:AO}{t:Nat}{b:Bool}{rest:List jd}{Post:Fr->Prop}{B:Bool}{p r:Prop}(h:look fr t=some (.c (.bool B)))(q:Bq B p r)(h1:p->Qg P G (⟨d,o,some (t,b)⟩::rest) ((t,.c (.bool true))::fr) Post)(h2:r->Qg P G (⟨d,o,some (t,b)⟩::rest) ((t,.c (.bool false))::fr) Post):
 Qg P G (⟨d,o,some (t,b)⟩::rest) fr Post:=.guard B h (λe=>h1 (q.yes e)) (λe=>h2 (q.no e))
theorem Go.v2{d s i:Nat}{e:Nat}{z cs:List Ce}{w u:AV}{k:Nat}{rest:List jd}(h0:n0<=G.next)(hh:(i !=d&&i !=e&&d !=e&&k !=d)=true)(hy:look fr k=some u)(hw:look fr i=some w)(hx:w.cells=some cs)(hl:cs.length=s)(hz:z.length=s)
 (h:Go P n0 nt rets R (.ops rest::K) ((e,u)::(d,.c (.fp cs))::fr) G):Go P n0 nt rets R (.ops (⟨some d,.op (.alloc z),none⟩::⟨some e,.op (.mv (.t k)),none⟩::⟨none,.op (.store s (.t d) (.t i)),none⟩::rest)::K) fr G:=by
 simp only[Bool.and_eq_true,bne_iff_ne]at hh;exact .var2 h0 hh.1.1.1 hh.1.1.2 hh.1.2 hh.2 hy hw hx hl hz h
theorem Go.v1{d s i:Nat}{z cs:List Ce}{w:AV}{rest:List jd}(h0:n0<=G.next)(hi:(i !=d)=true)(hi:true=true)(hw:look fr i=some w)(hx:w.cells=some cs)(hl:cs.length=s)(hz:z.length=s)
 (h:Go P n0 nt rets R (.ops rest::K) ((d,.c (.fp cs))::fr) G):Go P n0 nt rets R (.ops (⟨some d,.op (.alloc z),none⟩::⟨none,.op (.store s (.t d) (.t i)),none⟩::rest)::K) fr G:=by
 rename_i hh;simp only[bne_iff_ne]at hh;exact .var h0 hh hw hx hl hz h
variable {es:List (List Ce)}{e:List Ce}{x:AV}
theorem aL{g:Bool}{s k v i j:Nat}{a:Opd}(ha:a.ev fr=some (.c (.ptr (G.next+k) v i j)))(hl:l[k]?=some (v,es))(he:es[i]?=some e)(hj:Nat.ble j e.length=true)(hx:wbw g s (e.drop j)=some x):
 aop (.load g s a) fr (E G l)=some (x,E G l):=zaj ha hl he (yam hj) hx
theorem aS{s k v i j:Nat}{a y:Opd}{cs:List Ce}(ha:a.ev fr=some (.c (.ptr (G.next+k) v i j)))(hy:y.ev fr=some x)(hc:x.cells=some cs)(hl:l[k]?=some (v,es))(he:es[i]?=some e)(hs:cs.length=s)(hj:Nat.ble (j+s) e.length=true):
 aop (.store s a y) fr (E G l)=some (.un,E G (l.set k (v,es.set i (jh e j cs)))):=zl ha hy hc hl he hs (yam hj)
theorem wlj{a b:Nat}:a<=a+b:=ybc a b
end
theorem yax{fr:Fr}{V:jb}{α:Type}(enc:α->List Ce){xs:List α}{s n:Nat}{x y:Opd}{kd:IntKind}{z:Int}(hz:z=(n:Int))(hn:n<xs.length)(hx:x.ev fr=some (.c (.fz (xs.map enc))):=by exact rfl)(hy:y.ev fr=some (.c (.int kd z)):=by exact rfl)(hs:(enc xs[n]).length=s:=by exact rfl):aop (.iaddr s x y) fr V=some (.c (.fp (enc xs[n])),V):=jf0 hx hy hz hn hs
abbrev yA:= @Go.adm
abbrev yB:= @Go.qs
abbrev yC:= @Qg.nil
abbrev yD:= @Go.v2
abbrev yE:= @Go.v1
abbrev yF:= @wlj
abbrev yH:= @Go.sop
abbrev yG:= @Go.op
abbrev yI:= @Qg.op
abbrev yJ:= @zg3
abbrev yK:= @zky
abbrev yL:= @wj5
abbrev yM:= @zj6
abbrev yN:= @Go.no
abbrev yO:= @Go.sno
abbrev yP:= @Qg.no
abbrev yQ:= @Go.pcall
abbrev yR:= @Go.spcall
abbrev yS:= @Qg.pcall
abbrev yT:= @Go.iQ
abbrev yU:= @Go.gQ
abbrev yV:= @Go.sQ
abbrev yW:= @Qg.gQ
abbrev yX:= @jf0
variable {p:Prop}
theorem X{q:Prop}(hq:q)(h:q->p:=by intro h;(repeat1' (first|(apply yA;exact rfl)|apply yB|apply yC|((first|apply yD|apply yE);(first|exact yF|(clear h;assumption));iterate 6 exact rfl)|((first|apply yG|apply yH|apply yI);exact rfl;(first|exact yJ|exact yK rfl rfl|exact yL rfl|exact yM rfl|exact rfl|exact aL rfl rfl rfl rfl rfl|exact aS rfl rfl rfl rfl rfl rfl rfl))|((first|apply yN|apply yO|apply yP);exact rfl)));exact h):p:=h hq
theorem yaN{q:Prop}(hq:q)(h:q->p:=by intro h;(repeat1' (first|(apply yA;exact rfl)|apply yB|apply yC|((first|apply yG|apply yH|apply yI);exact rfl;(first|exact yJ|exact yK rfl rfl|exact yL rfl|exact yM rfl|exact rfl|exact aL rfl rfl rfl rfl rfl|exact aS rfl rfl rfl rfl rfl rfl rfl))|((first|apply yN|apply yO|apply yP);exact rfl)));exact h):p:=h hq
theorem yaC{f:Nat}{args:List AV}(c:Pure P f args r){p q:Prop}(hq:q)(h:Pure P f args r->q->p:=by intro c h;(first|apply yQ|apply yR|apply yS);(iterate 3 exact rfl);exact c;exact h):p:=h c hq
theorem yaS{a b:Prop}(ha:a)(hb:b)(h:a->b->p:=by intro a b;(first|apply yT|apply yU|apply yV|apply yW);exact rfl;(first|exact .d|exact .e|exact .n|((fail_if_success exact bqt);(fail_if_success exact bqf);exact .b));exact a;exact b):p:=h ha hb
theorem yaF(h:False:=by omega):p:=h.elim
end Go.Proofs.YtedaadaaibofaaaGreat.Am
namespace Go.Proofs.YtedaadaaibofaaaGreat.Am
open Go.RowKit

theorem Flat.old{x:Ce}(h:Flat x)(n:Nat):Old n x:=by
 cases h with
 |int k m=>exact .int k m
 |bool b=>exact .bool b
 |str s=>exact .str s
 |nilp=>exact .nilp
 |nils=>exact .nils
 |nilf=>exact .nilf
 |emp=>exact .emp
 |any=>exact .any
theorem Flat.move{C D:Cx}{x:Ce}(h:Flat x){v:Value}(hx:Rp C x v):Rp D x v:=by
 cases h<;>cases hx<;>constructor<;>assumption
inductive Tidy(n:Nat):Ce->Prop where
 |flat {x:Ce} (h:Flat x):Tidy n x
 |sl (id v i m c:Nat) (h:n<=id):Tidy n (.sl id v i m c)
 |ptr (id v i j:Nat) (h:n<=id):Tidy n (.ptr id v i j)
def jky(n:Nat)(l:List (Nat×List (List Ce))):Prop:=∀b∈l,∀e∈b.2,∀x∈e,Tidy n x
inductive Has(G:jb):(Nat->Prop)->Ce->Ce->Prop where
 |c {S:Nat->Prop} {x:Ce} (h:Flat x):Has G S x x
 |nil {S:Nat->Prop}:Has G S (.fz []) .nils
 |o {S:Nat->Prop} (ys:List (List Ce)) (id v s:Nat) (cs junk:List (List Ce)) (T:Nat->Nat->Nat->Prop) (hg:G.get id=some (v,cs++junk)) (hS:S id) (hl:cs.length=ys.length)
  (hs:∀i (hi:i<ys.length),(cs[i]'O).length=ys[i].length) (hall:∀e∈cs++junk,e.length=s) (hj:∀e∈junk,∀x∈e,Flat x)
  (hT:∀i j a,T i j a->S a/\a≠id) (hd:∀i j i' j' a,T i j a->T i' j' a->i=i'/\j=j')
  (h:∀i j (hi:i<ys.length) (hj:j<ys[i].length),Has G (T i j) ys[i][j] ((cs[i]'O)[j]'(by have:=hs i hi;omega))):
  Has G S (.fz ys) (.sl id v 0 ys.length (ys.length+junk.length))
variable {G:jb}{S:Nat->Prop}
theorem Has.mono{S':Nat->Prop}(hSS:∀a,S a->S' a){y x:Ce}(h:Has G S y x):Has G S' y x:=by
 cases h with
 |c h=>exact .c h
 |nil=>exact .nil
 |o ys id v s cs junk T hg hS hl hs hall hj hT hd h=>exact .o ys id v s cs junk T hg (hSS _ hS) hl hs hall hj (λi j a ha=>⟨hSS _ (hT i j a ha).1,(hT i j a ha).2⟩) hd h
theorem Has.frame{G':jb}{y x:Ce}(h:Has G S y x):(∀a,S a->G'.get a=G.get a)->Has G' S y x:=by
 induction h with
 |c h=>exactλ_=>.c h
 |nil=>exactλ_=>.nil
 |o ys id v s cs junk T hg hS hl hs hall hj hT hd h ih=>
  intro hf;exact .o ys id v s cs junk T (by rw[hf _ hS];exact hg) hS hl hs hall hj hT hd λi j hi hj=>ih i j hi hj λa ha=>hf a (hT i j a ha).1
theorem Has.frz{G:jb}{S:Nat->Prop}{y x:Ce}(h:Has G S y x){n:Nat}(hn:∀a,S a->n<=a):Frz G n x y:=by
 induction h with
 |c h=>exact .same _ (h.old n)
 |nil=>exact .nil
 |o ys id v s cs junk T hg hS hl hs hall hj hT hd h ih=>
  refine .sl id v 0 _ _ (cs++junk) ys (hn _ hS) hg gq rfl (λk hk=>?_) (λk j hk hj=>?_)
  ·have e:(cs++junk)[0+k]'gq=cs[k]'O:=by
    simp only[Nat.zero_add];rw[yarq O]
   rw[e];exact(hs k hk).symm
  ·have e:(cs++junk)[0+k]'gq=cs[k]'O:=by
    simp only[Nat.zero_add];rw[yarq O]
   simp only[e];exact ih k j hk hj λa ha=>hn a (hT k j a ha).1
theorem Has.tidy{y x:Ce}(h:Has G S y x){n:Nat}(hn:∀a,S a->n<=a):Tidy n x:=by
 cases h with
 |c h=>exact .flat h
 |nil=>exact .flat .nils
 |o ys id v s cs junk T hg hS hl hs hall hj hT hd h=>exact .sl _ _ _ _ _ (hn _ hS)
def HasL(G:jb)(S:Nat->Prop)(ys xs:List Ce):Prop:=
 ∃U:Nat->Nat->Prop,xs.length=ys.length/\(∀j a,U j a->S a)/\(∀j j' a,U j a->U j' a->j=j')/\∀j (hy:j<ys.length) (hx:j<xs.length),Has G (U j) ys[j] xs[j]
theorem HasL.mono{S':Nat->Prop}(hSS:∀a,S a->S' a){ys xs:List Ce}(h:HasL G S ys xs):HasL G S' ys xs:=
 let⟨U,h1,h2,h3,h4⟩:=h
 ⟨U,h1,λj a ha=>hSS a (h2 j a ha),h3,h4⟩
theorem HasL.frame{G':jb}{ys xs:List Ce}(h:HasL G S ys xs)(hf:∀a,S a->G'.get a=G.get a):HasL G' S ys xs:=
 let⟨U,h1,h2,h3,h4⟩:=h
 ⟨U,h1,h2,h3,λj hy hx=>(h4 j hy hx).frame λa ha=>hf a (h2 j a ha)⟩
def New(G:jb)(y:Ce)(r:AV)(G':jb):Prop:=∃x l,r=.c x/\G'=E G l/\jky G.next l/\Has G' (λa=>G.next<=a/\a<G'.next) y x
variable {s:Nat}{cs:List Ce}
theorem zi9(h:cs.length=s):wbw true s cs=some (.agg cs):=by
 simp[wbw,h];rw[yao O]
theorem zw{fr:Fr}{l:List (Nat×List (List Ce))}{bytes n:Nat}{z:List Ce}{x y:Opd}(hx:x.ev fr=some (.c (.int .i64 (n:Int))))(hy:y.ev fr=some (.c (.int .i64 (n:Int))))(hb:bytes*n<=140737488355328):
 aop (.mkslice s bytes z x y) fr (E G l)=some (.c (.sl (G.next+l.length) 0 0 n n),E G (l++[(0,List.replicate n z)])):=by
 have:((bytes:Int)*(n:Int)<=140737488355328):=by rw[<-Int.natCast_mul];omega
 simp only[aop,hx,hy];rw[if_pos ⟨O,O,this⟩];simp[ji8,zan]
theorem zis{e:List Ce}(h1:e.length=s)(h2:cs.length=s):jh e 0 cs=cs:=by
 simp only[jh,List.take_zero,List.nil_append,Nat.zero_add];rw[yad O];simp

end Go.Proofs.YtedaadaaibofaaaGreat.Am
namespace Go.Proofs.YtedaadaaibofaaaGreat.Am
open Go.RowKit

theorem Tidy.move{C D:Cx}{n:Nat}{x:Ce}(h:Tidy n x)(hw:D.w=C.w)(hF:∀id v,n<=id->C.F id v->D.F id v/\D.μ id v=C.μ id v){v:Value}(hx:Rp C x v):Rp D x v:=by
 cases h with
 |flat h=>exact h.move hx
 |sl id v i m c h=>
  cases hx with
  |sl0 _ _ _ a hf=>exact .sl0 _ _ _ _ (hF _ _ h hf).1
  |sl _ _ _ _ _ cap hf hn hc hv hk=>
   obtain⟨h1,h2⟩:=hF _ _ h hf;have:=Rp.sl (C:=D) id v i m c cap h1 hn hc (by rw[h2];exact hv) (by rw[h2,hw];exact hk);rw[h2]at this;exact this
 |ptr id v i j h=>
  cases hx with
  |ptr _ _ _ _ hf hv=>
   obtain⟨h1,h2⟩:=hF _ _ h hf;have:=Rp.ptr (C:=D) id v i j h1 (by rw[h2];exact hv);rw[h2]at this;exact this
theorem jis{C D:Cx}{n:Nat}(hw:D.w=C.w)(hF:∀id v,n<=id->C.F id v->D.F id v/\D.μ id v=C.μ id v){x:AV}{v:Value}(hx:RpV C x v):(∀y∈x.all,Tidy n y)->RpV D x v:=by
 induction hx with
 |c h=>exactλht=>.c ((ht _ (by simp[AV.all])).move hw hF h)
 |agg hl h=>exactλht=>.agg hl λi hi=>(ht _ (by simp[AV.all])).move hw hF (h i hi)
 |@tup xs vs hl h ih=>
  refineλht=>.tup hl λi hi=>ih i hi λy hy=>ht y ?_;have:∀(vs:List AV) (i:Nat) (hi:i<vs.length),y∈vs[i].all->y∈AV.all.allL vs:=by
   intro vs
   induction vs with
   |nil=>intro i hi;simp at hi
   |cons v r ih=>
    intro i hi hy;simp only[AV.all.allL,List.mem_append]
    cases i with
    |zero=>exact .inl hy
    |succ i=>exact .inr (ih i (by simpa using hi) hy)
  simp only[AV.all];exact this xs i hi hy
 |un v=>exactλ_=>.un v

variable {G:jb}{Q:AV->jb->Prop}
theorem Ok.lent{P:Program}{f:Nat}{args args':List AV}(h:Ok P f args' (jb.none G.next) Q)(hl:args'.length=args.length)
 (hf:∀i (hi:i<args.length),FrzV G 0 args[i] (args'[i]'O)\/args[i]=args'[i]'O)
 (hq:∀r V,Q r V->∃l,V=E (jb.none G.next) l/\jky G.next l/\∀y∈r.all,Tidy G.next y):
 Ok P f args G (λr G'=>∃l,G'=E G l/\Q r (E (jb.none G.next) l)):=by
 refine⟨h.1,λC cargs hR ⟨hal,ha⟩=>?_⟩
 let C':Cx:=⟨C.μ,C.F,λ_=>False,C.w⟩
 have hR':Rl C' (jb.none G.next):=⟨hR.F,λid v es hg=>by simp[jb.none]at hg,λb=>⟨λh=>h.elim,λ⟨id,v,es,hg,_⟩=>by simp[jb.none]at hg⟩,λid v es id' v' es' hg=>by simp[jb.none]at hg,λid v es hg=>by simp[jb.none]at hg⟩;have hle:C.Le C':=⟨λ_ _ h=>⟨h,rfl⟩,rfl,rfl,rfl,yaf _,λ_ _ _=>rfl,λb cs t h=>⟨cs,h,rfl⟩,λ_ _ h=>h.elim⟩;refine(h.2 C' cargs hR' ⟨O,λi hi=>?_⟩).mono ?_
 ·rcases hf i O with h|h
  ·exact h.sound (D:=C') hR rfl rfl (λid v _ hlt=>absurd hlt O) (λb h=>h.elim) (λ_ _ _ _ _ _ h=>h) (ha i O)
  ·rw[<-h];exact(ha i O).mono hle
 ·rintro e w' ⟨D',V,r,v,rfl,rfl,hQ,hRD,hx,hle'⟩;obtain⟨l,rfl,ht,htr⟩:=hq r V hQ
  let μ:=λid v=>if id<G.next then C.μ id v else D'.μ id v
  let F:=λid v=>if id<G.next then C.F id v else D'.F id v
  let D:Cx:=⟨μ,F,Mof μ (E G l),D'.w⟩
  have newb:∀id v es,G.next<=id->(E (jb.none G.next) l).get id=some (v,es)->es≠[]->¬(D'.μ id v).b<C.w.heap.size:=by
   intro id v es hn hg hne hlt;exact hle'.M _ hlt ((hRD.M _).2 ⟨id,v,es,hg,hne,rfl⟩)
  have getn:∀id,G.next<=id->(E G l).get id=(E (jb.none G.next) l).get id:=by
   intro id hn;rw[E_ge O,E_ge (by show¬id<G.next;omega)]
   rfl
  have oldb:∀id v es,G.get id=some (v,es)->es≠[]->(C.μ id v).b<C.w.heap.size:=by
   intro id v es hg hne;obtain⟨cs,t,hb,_⟩:=hR.blk id v es hg hne;exact lt_of_block hb
  have hFo:∀id v,C.F id v->D.F id v/\D.μ id v=C.μ id v:=by
   intro id v hf;have:=hR.F id v hf;exact⟨by show(if id<G.next then C.F id v else D'.F id v);rw[if_pos this];exact hf,if_pos this⟩
  have hFn:∀id v,G.next<=id->D'.F id v->D.F id v/\D.μ id v=D'.μ id v:=by
   intro id v hn hf;exact⟨by show(if id<G.next then C.F id v else D'.F id v);rw[if_neg (Nat.not_lt.2 hn)];exact hf,if_neg (Nat.not_lt.2 hn)⟩
  have hLe:C.Le D:=by
   refine⟨hFo,hle'.os,hle'.tape,hle'.output,hle'.size,λb hb _=>hle'.keep b hb (λh=>h),hle'.shp,λb hb hm=>?_⟩;obtain⟨id,v1,es,hg,hne,hbb⟩:=hm;by_cases hn:id<G.next
   ·rw[E_lt hn]at hg;have:μ id v1=C.μ id v1:=if_pos hn;rw[this]at hbb;exact(hR.M b).2 ⟨id,v1,es,hg,hne,hbb⟩
   ·rw[getn id O]at hg;have:μ id v1=D'.μ id v1:=if_neg hn;rw[this]at hbb;exact absurd hb (by rw[<-hbb];exact newb id v1 es O hg hne)
  refine⟨D,E G l,r,v,rfl,rfl,⟨l,rfl,hQ⟩,⟨λid v hf=>?_,λid v1 es hg=>?_,λb=>Iff.rfl,λid v1 es id' v1' es' hg hne hg' hne' hbb=>?_,λid v1 es hg hne=>?_⟩,jis (C:=D') (D:=D) rfl hFn hx htr,hLe⟩
  ·simp only[D,F]at hf;split at hf
   ·rw[zan];omega
   ·exact hRD.F id v hf
  ·by_cases hn:id<G.next
   ·rw[E_lt hn]at hg;obtain⟨a1,a2,a3⟩:=hR.live id v1 es hg;simp only[D,F,μ,if_pos hn];exact⟨a1,a2,a3⟩
   ·rw[getn id O]at hg;obtain⟨a1,a2,a3⟩:=hRD.live id v1 es hg;simp only[D,F,μ,if_neg hn];exact⟨a1,a2,a3⟩
  ·simp only[D,μ]at hbb;by_cases hn:id<G.next
   ·rw[E_lt hn]at hg;rw[if_pos hn]at hbb;by_cases hn':id'<G.next
    ·rw[E_lt hn']at hg';rw[if_pos hn']at hbb;exact hR.inj id v1 es id' v1' es' hg hne hg' hne' hbb
    ·rw[getn id' O]at hg';rw[if_neg hn']at hbb;exact absurd (oldb id v1 es hg hne) (by rw[hbb];exact newb id' v1' es' O hg' hne')
   ·rw[getn id O]at hg;rw[if_neg hn]at hbb;by_cases hn':id'<G.next
    ·rw[E_lt hn']at hg';rw[if_pos hn']at hbb;exact absurd (oldb id' v1' es' hg' hne') (by rw[<-hbb];exact newb id v1 es O hg hne)
    ·rw[getn id' O]at hg';rw[if_neg hn']at hbb;exact hRD.inj id v1 es id' v1' es' hg hne hg' hne' hbb
  ·by_cases hn:id<G.next
   ·rw[E_lt hn]at hg;have e:D.μ id v1=C.μ id v1:=if_pos hn;obtain⟨cs,t,hb,hz,hs,hc⟩:=hR.blk id v1 es hg hne;rw[e];refine⟨cs,t, ?_,hz,hs,λi j hi hj=>?_⟩
    ·show D'.w.heap[_]?=_;rw[hle'.keep _ (lt_of_block hb) (λh=>h)];exact hb
    ·obtain⟨u,h1,h2⟩:=hc i j hi hj;exact⟨u,h1,h2.mono hLe⟩
   ·have hg2:=hg;rw[getn id O]at hg;have e:D.μ id v1=D'.μ id v1:=if_neg hn;obtain⟨cs,t,hb,hz,hs,hc⟩:=hRD.blk id v1 es hg hne;rw[e];refine⟨cs,t,hb,hz,hs,λi j hi hj=>?_⟩;obtain⟨u,h1,h2⟩:=hc i j hi hj;refine⟨u,h1,Tidy.move (n:=G.next) (C:=D') (D:=D) ?_ rfl hFn h2⟩;rw[E_ge hn]at hg2;exact ht _ (List.mem_of_getElem? hg2) _ (yaa hi) _ (yaa hj)

theorem Ok.old'{P:Program}{f:Nat}{args:List AV}{Q':AV->jb->Prop}(h1:Ok P f args G Q')(hk:OldS G->(∀x∈args,∀y∈x.all,Old G.next y)->Ok P f args G Q):Ok P f args G Q:=by
 refine⟨h1.1,λC cargs hR ha=>?_⟩;obtain⟨hl,hv⟩:=ha;refine(hk hR.old λx hx y hy=>?_).2 C cargs hR ⟨hl,hv⟩;obtain⟨i,hi,rfl⟩:=List.mem_iff_getElem.1 hx;exact(hv i hi).old hR.F y hy
theorem Made.new{s:Nat}{ys:List (List Ce)}(hy:∀e∈ys,e.length=s/\∀x∈e,Flat x){r:AV}{G':jb}(h:Made G s ys r G'):New G (.fz ys) r G':=by
 obtain⟨v,junk,hj,rfl,rfl⟩:=h;have hall:∀e∈ys++junk,e.length=s/\∀x∈e,Flat x:=by
  intro e he;rcases List.mem_append.1 he with h|h
  ·exact hy e h
  ·exact hj e h
 refine⟨_,_,rfl,rfl, ?_, ?_⟩
 ·intro b hb e he x hx;simp at hb;subst hb;exact .flat ((hall e he).2 x hx)
 ·exact .o ys (G.next+0) v s ys junk (λ_ _ _=>False) (by rw[E_at];rfl) (by simp[zan]) rfl (λi hi=>rfl) (λe he=>(hall e he).1) (λe he=>(hj e he).2) (λ_ _ _ h=>h.elim) (λ_ _ _ _ _ h=>h.elim)
   λi j hi hj=>.c ((hy _ (yaa hi)).2 _ (yaa hj))
end Go.Proofs.YtedaadaaibofaaaGreat.Am
namespace Go.Proofs.YtedaadaaibofaaaGreat.Am
open Go.RowKit

theorem zay{fr:Fr}{G:jb}{l:List (Nat×List (List Ce))}{k v i t j s:Nat}{g:Bool}{es:List (List Ce)}{e:List Ce}{x:AV}(hp:look fr t=some (.c (.ptr (G.next+k) v i j)))(hl:l[k]?=some (v,es))(he:es[i]?=some e)(hj:j<=e.length)(hx:wbw g s (e.drop j)=some x):
 retv fr (E G l) [.m t g s]=some x:=by
 simp[retv,revs,RV.ev,hp,jb.at_,E_at,hl,he,hj,hx]
end Go.Proofs.YtedaadaaibofaaaGreat.Am
namespace Go.Proofs.YtedaadaaibofaaaGreat.Am
open Go.RowKit

variable {fr:Fr}{G:jb}{es:List (List Ce)}
theorem wq{s id v i m c n:Nat}{x y:Opd}{kd:IntKind}{z:Int}(hx:x.ev fr=some (.c (.sl id v i m c)))(hy:y.ev fr=some (.c (.int kd z)))(hz:z=(n:Int))(hn:n<m)(hl:G.get id=some (v,es)){e:List Ce}(he:es[i+n]?=some e)(hs:e.length=s):
 aop (.iaddr s x y) fr G=some (.c (.ptr id v (i+n) 0),G):=by
 subst hz;simp[aop,hx,hy,zgy,hn,hl,he,hs]
theorem wdw{id v i j:Nat}{a y:Opd}{e:List Ce}{z:Ce}(ha:a.ev fr=some (.c (.ptr id v i j)))(hy:y.ev fr=some (.c z))(hl:G.get id=some (v,es))(he:es[i]?=some e)(hj:j<e.length):
 aop (.store 1 a y) fr G=some (.un,G.put id (v,es.set i (jh e j [z]))):=by
 have:j+1<=e.length:=O;simp[aop,ha,hy,AV.cells,hl,he,this]
theorem j5{id v i j:Nat}{a:Opd}{e:List Ce}(ha:a.ev fr=some (.c (.ptr id v i j)))(hl:G.get id=some (v,es))(he:es[i]?=some e)(hj:j<e.length):
 aop (.load false 1 a) fr G=some (.c e[j],G):=by
 have h1:j<=e.length:=O;have h2:e.drop j=e[j]::e.drop (j+1):=yab hj;simp only[aop,ha,jb.at_,hl,he,if_true,Option.bind_some,if_pos h1,h2,wbw]
 rfl

def cntL{α:Type}(c:α->Int):List α->Int
 |[]=>0
 |a::r=>c a+cntL c r
end Go.Proofs.YtedaadaaibofaaaGreat.Am
namespace Go.Proofs.YtedaadaaibofaaaGreat.Am
open Go.RowKit

def Gr(G V:jb):Prop:=∃l,V=E G l/\jky G.next l
variable {G V:jb}
theorem Gr.next(h:Gr G V):G.next<=V.next:=by
 obtain⟨l,rfl,_⟩:=h;simp[zan]
theorem Gr.lt(h:Gr G V){a:Nat}(ha:a<G.next):V.get a=G.get a:=by
 obtain⟨l,rfl,_⟩:=h;exact E_lt ha
inductive HasV(V:jb):(Nat->Prop)->AV->AV->Prop where
 |c {S:Nat->Prop} {y x:Ce} (h:Has V S y x):HasV V S (.c y) (.c x)
 |agg {S:Nat->Prop} {ys xs:List Ce} (h:HasL V S ys xs):HasV V S (.agg ys) (.agg xs)
 |tup {S:Nat->Prop} {ys xs:List AV} (U:Nat->Nat->Prop) (hl:xs.length=ys.length) (hU:∀i a,U i a->S a) (hd:∀i i' a,U i a->U i' a->i=i') (h:∀i (hy:i<ys.length) (hx:i<xs.length),HasV V (U i) ys[i] xs[i]):HasV V S (.tup ys) (.tup xs)
variable {S:Nat->Prop}{y x:AV}
theorem HasV.frame{V':jb}(h:HasV V S y x):(∀a,S a->V'.get a=V.get a)->HasV V' S y x:=by
 induction h with
 |c h=>exactλhf=>.c (h.frame hf)
 |agg h=>exactλhf=>.agg (h.frame hf)
 |tup U hl hU hd h ih=>exactλhf=>.tup U hl hU hd λi hy hx=>ih i hy hx λa ha=>hf a (hU i a ha)
theorem HasV.mono'{S':Nat->Prop}(h:HasV V S y x)(hS:∀a,S a->S' a):HasV V S' y x:=by
 cases h with
 |c h=>exact .c (h.mono hS)
 |agg h=>exact .agg (h.mono hS)
 |tup U hl hU hd h=>exact .tup U hl (λi a ha=>hS a (hU i a ha)) hd h
theorem HasL.frz{V:jb}{S:Nat->Prop}{ys xs:List Ce}(h:HasL V S ys xs){n:Nat}(hn:∀a,S a->n<=a):FrzV V n (.agg xs) (.agg ys):=by
 obtain⟨U,h1,h2,h3,h4⟩:=h;exact .agg h1.symm λi hi=>(h4 i O hi).frz λa ha=>hn a (h2 i a ha)
theorem HasV.frz{V:jb}{S:Nat->Prop}{y x:AV}(h:HasV V S y x):∀{n:Nat},(∀a,S a->n<=a)->FrzV V n x y:=by
 induction h with
 |c h=>exactλhn=>.c (h.frz hn)
 |agg h=>exactλhn=>h.frz hn
 |tup U hl hU hd h ih=>exactλhn=>.tup hl.symm λi hi=>ih i O hi λa ha=>hn a (hU i a ha)
theorem HasV.tidy(h:HasV V S y x){n:Nat}:(∀a,S a->n<=a)->∀z∈x.all,Tidy n z:=by
 induction h with
 |c h=>
  intro hn z hz;simp[AV.all]at hz;subst hz;exact h.tidy hn
 |agg h=>
  intro hn z hz;obtain⟨U,h1,h2,h3,h4⟩:=h;simp only[AV.all]at hz;obtain⟨j,hj,rfl⟩:=List.mem_iff_getElem.1 hz;exact(h4 j O hj).tidy λa ha=>hn a (h2 j a ha)
 |tup U hl hU hd h ih=>
  intro hn z hz;obtain⟨i,hi,hz⟩:=jgc (by simpa only[AV.all]using hz);exact ih i O hi (λa ha=>hn a (hU i a ha)) z hz
theorem HasV.pair{S1 S2:Nat->Prop}{y1 x1 y2 x2:AV}(h1:HasV V S1 y1 x1)(h2:HasV V S2 y2 x2)(s1:∀a,S1 a->S a)(s2:∀a,S2 a->S a)(hd:∀a,S1 a->¬S2 a):HasV V S (.tup [y1,y2]) (.tup [x1,x2]):=by
 refine .tup (λi a=>(i=0/\S1 a)\/(i=1/\S2 a)) rfl (λi a ha=>?_) (λi i' a h h'=>?_) (λi hy hx=>?_)
 ·rcases ha with⟨_,ha⟩|⟨_,ha⟩
  ·exact s1 a ha
  ·exact s2 a ha
 ·rcases h with⟨c,h⟩|⟨c,h⟩<;>rcases h' with⟨c',h'⟩|⟨c',h'⟩
  ·omega
  ·exact absurd h' (hd a h)
  ·exact absurd h (hd a h')
  ·omega
 ·match i,hy,hx with
  |0,_,_=>exact h1.mono' λa ha=>.inl ⟨rfl,ha⟩
  |1,_,_=>exact h2.mono' λa ha=>.inr ⟨rfl,ha⟩
def NewV(G:jb)(y:AV)(r:AV)(V:jb):Prop:=Gr G V/\HasV V (λa=>G.next<=a/\a<V.next) y r
theorem New.v{y:Ce}{r:AV}(h:New G y r V):NewV G (.c y) r V:=by
 obtain⟨x,l,rfl,rfl,ht,hh⟩:=h;exact⟨⟨l,rfl,ht⟩,.c hh⟩
variable {P:Program}{f:Nat}{args:List AV}
theorem NewV.pure(h:∀G,Ok P f args G (NewV G y)):Pure P f args y:=by
 constructor;intro G;refine .old' (h G) λhS ha=>Ok.pure (h G) y (λid y hy=>(hS id y hy).1) ?_;rintro r G1 ⟨hg,hh⟩;exact⟨λid y hy=>by rw[hg.lt (hS id y hy).1];exact hy,hh.frz λa ha=>ha.1⟩
theorem wky{l m:List (Nat×List (List Ce))}(h:E G l=E G m):l=m:=by
 refine List.ext_getElem? λk=>?_;have:=congrArg (λs=>s.get (G.next+k)) h;simpa only[E_at]using this
variable {args':List AV}
theorem Ok.lentV(h:∀G,Ok P f args' G (NewV G y))(hl:args'.length=args.length)
 (hf:∀i (hi:i<args.length),FrzV G 0 args[i] (args'[i]'O)\/args[i]=args'[i]'O):Ok P f args G (NewV G y):=by
 refine(Ok.lent (h (jb.none G.next)) hl hf ?_).mono ?_
 ·rintro r V ⟨⟨l,rfl,ht⟩,hh⟩;exact⟨l,rfl,ht,hh.tidy λa ha=>ha.1⟩
 ·rintro r G' ⟨l,rfl,⟨l',e,ht⟩,hh⟩;obtain rfl:=wky e;refine⟨⟨l,rfl,ht⟩,hh.frame λa ha=>?_⟩;have h1:¬a<G.next:=by have:=ha.1;exact Nat.not_lt.2 this
  rw[E_ge h1,E_ge (by exact h1)]
  rfl
inductive Lend(G:jb):List AV->List AV->Prop where
 |nil:Lend G [] []
 |own {x y:AV} {us bs:List AV} (h:FrzV G 0 x y) (r:Lend G us bs):Lend G (x::us) (y::bs)
 |same {a:AV} {us bs:List AV} (r:Lend G us bs):Lend G (a::us) (a::bs)
theorem Lend.spec{us bs:List AV}(h:Lend G us bs):∃hl:bs.length=us.length,∀i (hi:i<us.length),FrzV G 0 us[i] (bs[i]'O)\/us[i]=bs[i]'O:=by
 induction h with
 |nil=>exact⟨rfl,λi hi=>by simp at hi⟩
 |own h r ih=>
  obtain⟨hl,hz⟩:=ih;refine⟨by simp[hl],λi hi=>?_⟩
  cases i with
  |zero=>exact .inl h
  |succ i=>exact hz i (by simpa using hi)
 |same r ih=>
  obtain⟨hl,hz⟩:=ih;refine⟨by simp[hl],λi hi=>?_⟩
  cases i with
  |zero=>exact .inr rfl
  |succ i=>exact hz i (by simpa using hi)
theorem Lend.pure{n:Nat}{r:AV}(h:Lend G args args')(hp:Pure P n args' r)(hs:zc2 r):Ok P n args G (λr' G'=>r'=r/\G'=G):=
 let⟨hl,hz⟩:=h.spec
 Ok.lend (hp.at_ _) hs hl hz
theorem Lend.new{n:Nat}(h:Lend G args args')(hp:∀G,Ok P n args' G (NewV G y)):Ok P n args G (NewV G y):=
 let⟨hl,hz⟩:=h.spec
 Ok.lentV hp hl hz
theorem HasV.lend(h:HasV V S y x):FrzV V 0 x y:=h.frz λ_ _=>yac _
section
variable {P:Program}{n0 nt:Nat}{rets:List RV}{R:AV->jb->Prop}{K:List AK}{fr:Fr}{G:jb}
variable {d:Option Nat}{g:Option (Nat×Bool)}{n:Nat}{pre cap:List Ce}{vs:List AV}{r:AV}
theorem Go.lcall{f:Opd}{args:List Opd}{rest:List jd}(hw:wants fr g=some true)(hf:f.ev fr=some (.c (.fn n pre cap)))(ha:evs fr args=some vs)
 (hp:Pure P n args' r) (hs:zc2 r) (hz:Lend G (pre.map AV.c++vs++cap.map AV.c) args') (h:Go P n0 nt rets R (.ops rest::K) (putA fr d r) G):Go P n0 nt rets R (.ops (⟨d,.call f args,g⟩::rest)::K) fr G:=
 .call _ hw hf ha (hz.pure hp hs) (by rintro r' G' ⟨rfl,rfl⟩;exact h)
theorem Go.slcall{f:Opd}{args:List Opd}{rest:List (List jd)}(hw:wants fr g=some true)(hf:f.ev fr=some (.c (.fn n pre cap)))(ha:evs fr args=some vs)
 (hp:Pure P n args' r) (hs:zc2 r) (hz:Lend G (pre.map AV.c++vs++cap.map AV.c) args') (h:Go P n0 nt rets R (.segs rest::K) (putA fr d r) G):Go P n0 nt rets R (.segs ([⟨d,.call f args,g⟩]::rest)::K) fr G:=
 .scall _ hw hf ha (hz.pure hp hs) (by rintro r' G' ⟨rfl,rfl⟩;exact h)
end
section
variable {P:Program}{n0 nt:Nat}{rets:List RV}{R:AV->jb->Prop}{K:List AK}{fr:Fr}{G:jb}
theorem Go.qd{s1 s2:jd}{seg:List jd}{rest:List (List jd)}(h:Qc P (λF V=>Go P n0 nt rets R (.segs rest::K) F V) (s1::s2::seg) fr G):Go P n0 nt rets R (.segs ((s1::s2::seg)::rest)::K) fr G:=.qc _ h λ_ _ h=>h
end
end Go.Proofs.YtedaadaaibofaaaGreat.Am
namespace Go.Proofs.YtedaadaaibofaaaGreat.Am
def ji9(s bytes:Nat)(z:List Ce):AFn:=⟨8,[.t 2],(.seq (.region [⟨some 2,.op (.mv (.k (.nils))),none⟩]) (.seq (.seq (.region [⟨some 3,.op (.mv (.t 0)),none⟩,⟨some 4,.op (.eq false false [.sl] (.t 3) (.k (.nils))),none⟩]) (.cond (.t 4) (.seq (.region [⟨some 2,.op (.mv (.k (.nils))),none⟩]) .ret) .skip)) (.seq (.region [⟨some 5,.op (.mksl false s 0 z []),none⟩,⟨some 6,.op (.mv (.t 0)),none⟩,⟨some 7,.op (.app s bytes (.t 5) (.t 6)),none⟩,⟨some 2,.op (.mv (.t 7)),none⟩]) .ret)))⟩
def wkq(G:jb)(s:Nat)(ys:List (List Ce))(r:AV)(V:jb):Prop:=(ys=[]/\r=.c .nils/\V=E G [])\/Made G s ys r V
variable {P:Program}
theorem jj6(hm:P.follows .mixedOrders=true){fz:List Nat}{n s bytes:Nat}{z:List Ce}(hc:ze P fz n=some (ji9 s bytes z))(ys:List (List Ce))(hs:∀e∈ys,e.length=s)(hb:ys.length*bytes<=140737488355328)(G:jb):
 Ok P n [.c (.fz ys)] G (wkq G s ys):=by
 refine Ok.run hm hc gz λhS hA=>?_;clear hS hA;have tail:∀{fr:Fr} {K},look fr 0=some (.c (.fz ys))->Go P G.next 8 [.t 2] (wkq G s ys) (.code (.region [⟨some 5,.op (.mksl false s 0 z []),none⟩,⟨some 6,.op (.mv (.t 0)),none⟩,⟨some 7,.op (.app s bytes (.t 5) (.t 6)),none⟩,⟨some 2,.op (.mv (.t 7)),none⟩])::.code .ret::K) fr (E G []):=by
  intro fr K h0;refine .same (fr':=(0,.c (.fz ys))::fr) (λt=>?_) ?_
  ·simp only[look];split
   ·rename_i e;subst e;exact h0.symm
   ·rfl
  repeat' first|refine X ?_|exact yaF|refine yaS ?_ ?_<;>intro _
  refine Go.app (ys:=[]) (junk:=[]) (zs:=ys) rfl rfl rfl rfl rfl gx Jk.nil hs (by simpa using hb) λv junk hj=>?_;repeat' first|refine X ?_|exact yaF|refine yaS ?_ ?_<;>intro _
  exact .ret rfl (.inr ⟨v,junk,hj,rfl,rfl⟩)
 cases ys with
 |nil=>
  repeat' first|refine X ?_|exact yaF|refine yaS ?_ ?_<;>intro _
  refine .nilq rfl rfl (.fz _) λb=>?_
  cases b with
  |true=>
   repeat' first|refine X ?_|exact yaF|refine yaS ?_ ?_<;>intro _
   exact .ret rfl (.inl ⟨rfl,rfl,rfl⟩)
  |false=>
   repeat (first|(apply Go.nil)|(apply Go.cond false;exact rfl)|(apply Go.skip))
   apply Go.seq;exact tail rfl
 |cons a r=>
  apply Go.seq;apply Go.region;apply Go.op;exact rfl;exact rfl;apply Go.nil;apply Go.seq;apply Go.seq;apply Go.region;apply Go.op;exact rfl;exact rfl;apply Go.op;exact rfl;exact rfl;apply Go.nil;apply Go.cond false;exact rfl;apply Go.skip;apply Go.seq;exact tail rfl
inductive wis(V:jb)(n:Nat)(fr:Fr):Fr->Prop where
 |nil:wis V n fr []
 |frz {t:Nat} {y x:AV} {r:Fr} (hl:look fr t=some y) (h:FrzV V n y x) (k:wis V n fr r):wis V n fr ((t,x)::r)
theorem wis.at_{V:jb}{n:Nat}{fr fr':Fr}(h:wis V n fr fr'):∀t x,look fr' t=some x->∃y,look fr t=some y/\FrzV V n y x:=by
 induction h with
 |nil=>intro t x hx;simp[look]at hx
 |@frz t0 y x0 r hl hz k ih=>
  intro t x hx;simp only[look]at hx;split at hx
  ·rename_i e;subst e;injection hx with hx;subst hx;exact⟨y,hl,hz⟩
  ·exact ih t x hx
section
variable {fr:Fr}{G:jb}
variable {es:List (List Ce)}
theorem zck{s id v b n c:Nat}{x:Opd}{lo hi mx:Option Opd}{lo' hi' mx':Option AV}{l h m:Nat}(hx:x.ev fr=some (.c (.sl id v b n c)))(h1:evo fr lo=some lo')(h2:evo fr hi=some hi')(h3:evo fr mx=some mx')(hl:zam 0 lo'=some l)(hh:zam n hi'=some h)(hm:zam c mx'=some m)
 (hg:G.get id=some (v,es)) (hs:∀e∈es,e.length=s) (hlh:l<=h) (hhm:h<=m) (hmc:m<=c):aop (.slice s x lo hi mx) fr G=some (.c (.sl id v (b+l) (h-l) (m-l)),G):=by
 have:wfx G s (.sl id v b n c) lo' hi' mx'=some (.sl id v (b+l) (h-l) (m-l)):=by
  simp only[wfx,hl,hh,hm,hg];exact if_pos ⟨trivial,hs,hlh,hhm,hmc⟩
 simp only[aop,hx,h1,h2,h3,this,Option.map_some]
theorem wi9{s id v b n c:Nat}{z:List Ce}{x:Opd}(hx:x.ev fr=some (.c (.sl id v b n c)))(hg:G.get id=some (v,es))(hz:z.length=s)(hs:∀e∈es,e.length=s)(hb:b+n<=es.length):aop (.clear z x) fr G=some (.un,G.put id (v,jh es b (List.replicate n z))):=by
 simp only[aop,hx,hg];exact if_pos ⟨trivial,hb,λe he=>by rw[hs e he,hz]⟩
theorem zex{d n:Nat}{k:IntKind}{z:Int}(h:z=(n:Int)):zam d (some (.c (.int k z)))=some n:=by
 subst h;simp[zam]
end
section
variable {fr:Fr}{G:jb}
variable {ys junk:List (List Ce)}
theorem Jk.drop{s:Nat}(h:∀e∈ys,e.length=s/\∀x∈e,Flat x)(hj:Jk s junk)(n:Nat):Jk s (ys.drop n++junk):=λe he=>
 (List.mem_append.1 he).elim (λh1=>h e (ybp h1)) (hj e)
variable {l:List (Nat×List (List Ce))}{s k v n:Nat}{x:Opd}{kd:IntKind}{z:Int}
theorem wj6{hi:Opd}(hx:x.ev fr=some (.c (vec (G.next+k) v ys junk)))(hh:hi.ev fr=some (.c (.int kd z)))(hz:z=(n:Int))(hn:n<=ys.length)(hl:l[k]?=some (v,ys++junk))(hs:∀e∈ys++junk,e.length=s):
 aop (.slice s x none (some hi) none) fr (E G l)=some (.c (vec (G.next+k) v (ys.take n) (ys.drop n++junk)),E G l):=by
 have hb:zam ys.length (some (.c (.int kd z)))=some n:=by simp[zam,hz]
 have hh':evo fr (some hi)=some (some (.c (.int kd z))):=by simp[evo,hh]
 have:=zck (s:=s) (G:=E G l) (lo:=none) (hi:=some hi) (mx:=none) hx rfl hh' rfl (l:=0) (h:=n) (m:=ys.length+junk.length) rfl hb rfl (es:=ys++junk) (by rw[E_at];exact hl) hs (yac _) O (yaf _);rw[this];have e1:(ys.take n).length=n:=by simp;omega
 have e2:n+(ys.drop n++junk).length=ys.length+junk.length:=by simp;omega
 simp only[vec,e1,e2,Nat.sub_zero,Nat.add_zero]
theorem zj7{lo:Opd}(hx:x.ev fr=some (.c (vec (G.next+k) v ys junk)))(hh:lo.ev fr=some (.c (.int kd z)))(hz:z=(n:Int))(hn:n<=ys.length)(hl:l[k]?=some (v,ys++junk))(hs:∀e∈ys++junk,e.length=s):
 aop (.slice s x (some lo) none none) fr (E G l)=some (.c (.sl (G.next+k) v n (ys.length-n) (ys.length+junk.length-n)),E G l):=by
 have hb:zam 0 (some (.c (.int kd z)))=some n:=by simp[zam,hz]
 have hh':evo fr (some lo)=some (some (.c (.int kd z))):=by simp[evo,hh]
 have:=zck (s:=s) (G:=E G l) (lo:=some lo) (hi:=none) (mx:=none) hx hh' rfl rfl (l:=n) (h:=ys.length) (m:=ys.length+junk.length) hb rfl rfl (es:=ys++junk) (by rw[E_at];exact hl) hs hn O (yaf _);rw[this];simp
theorem wbt{c N:Nat}(hl:l[k]?=some (v,ys++junk))(ho:∀e∈ys,∀x∈e,Flat x)(hn:n<=ys.length)(hN:N<=G.next+k):FrzV (E G l) N (.c (.sl (G.next+k) v n (ys.length-n) c)) (.c (.fz (ys.drop n))):=by
 refine .c (.sl _ _ _ _ _ (ys++junk) _ hN (by rw[E_at];exact hl) gq gx (λi hi=>?_) (λi j hi hj=>?_))
 ·rw[yarq O,List.getElem_drop]
 ·have e:(ys++junk)[n+i]'gq=(ys.drop n)[i]'gq:=by
   rw[yarq O,List.getElem_drop]
  simp only[e];exact .same _ ((ho _ (ybp (yaa _)) _ (yaa hj)).old _)
theorem jck{b:Nat×List (List Ce)}(hl:l[k]?=some b):(E G l).get (G.next+k)=some b:=by rw[E_at];exact hl
variable {n0 nt:Nat}{rets:List RV}{R:AV->jb->Prop}{K:List AK}
theorem Go.freezeN{fr':Fr}{m:List (Nat×List (List Ce))}(hS:OldS G)(hl:∀b∈l,∀e∈b.2,∀x∈e,Old (G.next+l.length) x)(hn:n0<=G.next)(h:wis (E G (l++m)) (G.next+l.length) fr fr')(hg:Go P n0 nt rets R K fr' (E G l)):Go P n0 nt rets R K fr (E G (l++m)):=by
 refine .shift (zgc.frz (n:=G.next+l.length) h.at_ rfl (λid y hy=>?_) O) hg;by_cases hlt:id<G.next
 ·rw[E_lt hlt]at hy;exact⟨by rw[E_lt hlt];exact hy,O,λi j hi hj=>((hS id y hy).2 i j hi hj).mono O⟩
 ·rw[E_ge hlt]at hy;have hk:id-G.next<l.length:=by
   by_cases e:id-G.next<l.length
   ·exact e
   ·rw[List.getElem?_eq_none O]at hy;cases hy
  exact⟨by rw[E_ge hlt,yba hk];exact hy,O,λi j hi hj=>hl y (List.mem_of_getElem? hy) _ (yaa hi) _ (yaa hj)⟩
variable {seg:List jd}{rest:List (List jd)}
theorem Go.qkd(l:List (Nat×List (List Ce)))(h:Qk P (λV=>∃m,V=E G (l++m)) (λF V=>Go P n0 nt rets R (.segs rest::K) F V) seg fr (E G l)):Go P n0 nt rets R (.segs (seg::rest)::K) fr (E G l):=
 .qk (λV=>∃m,V=E G (l++m)) _ ⟨[],gx⟩ h λ_ _ h=>h
variable {Z:Fr->jb->Prop}{d:Option Nat}{f:Opd}{args:List Opd}{g:Option (Nat×Bool)}{pre cap:List Ce}{vs:List AV}{r:AV}
theorem Qk.lcall{V:jb}{rest:List jd}{args':List AV}(hw:wants fr g=some true)(hf:f.ev fr=some (.c (.fn n pre cap)))(ha:evs fr args=some vs)
 (hp:Pure P n args' r) (hs:zc2 r) (hz:∀m,Lend (E G (l++m)) (pre.map AV.c++vs++cap.map AV.c) args') (h:Qk P (λV=>∃m,V=E G (l++m)) Z rest (putA fr d r) V):Qk P (λV=>∃m,V=E G (l++m)) Z (⟨d,.call f args,g⟩::rest) fr V:=
 .call hw hf ha (λρ ⟨m,hm⟩=>by subst hm;exact(hz m).pure hp hs) h
theorem Qk.pcall{I:jb->Prop}{V:jb}{rest:List jd}(hw:wants fr g=some true)(hf:f.ev fr=some (.c (.fn n pre cap)))(ha:evs fr args=some vs)
 (hp:Pure P n (pre.map .c++vs++cap.map .c) r) (h:Qk P I Z rest (putA fr d r) V):Qk P I Z (⟨d,.call f args,g⟩::rest) fr V:=
 .call hw hf ha (λρ _=>hp.at_ ρ) h
theorem Go.qkm(l m:List (Nat×List (List Ce)))(h:Qk P (λV=>∃m,V=E G (l++m)) (λF V=>Go P n0 nt rets R (.segs rest::K) F V) seg fr (E G (l++m))):Go P n0 nt rets R (.segs (seg::rest)::K) fr (E G (l++m)):=
 .qk (λV=>∃m,V=E G (l++m)) _ ⟨m,rfl⟩ h λ_ _ h=>h
theorem Qk.app{L:List (Nat×List (List Ce))}{rest:List jd}{bytes:Nat}{y:Opd}{u:Ce}{zs:List (List Ce)}(hw:wants fr g=some true)(hx:x.ev fr=some (.c (vec (G.next+k) v ys junk)))(hy:y.ev fr=some (.c u))(hu:(E G L).els u=some zs)(hl:L[k]?=some (v,ys++junk))
 (hys:∀e∈ys,e.length=s) (hj:Jk s junk) (hzs:∀e∈zs,e.length=s) (hb:(ys.length+zs.length)*bytes<=140737488355328) (hI:∀z,∃m,L.set k z=l++m)
 (h:∀v' junk',Jk s junk'->Qk P (λV=>∃m,V=E G (l++m)) Z rest (putA fr d (.c (vec (G.next+k) v' (ys++zs) junk'))) (E G (L.set k (v',ys++zs++junk')))):
 Qk P (λV=>∃m,V=E G (l++m)) Z (⟨d,.op (.app s bytes x y),g⟩::rest) fr (E G L):=by
 obtain⟨v',junk',hj',ha⟩:=jhs (s:=s) (bytes:=bytes) hx hy hu hl hys hj hzs hb;obtain⟨m,hm⟩:=hI (v',ys++zs++junk');exact .wop rfl hw ha ⟨m,by rw[hm]⟩ (h v' junk' hj')
theorem Go.join{K':List AK}(I:Fr->jb->Prop)(h1:∀fr G,I fr G->Go P n0 nt rets R K fr G)(h2:(∀fr G,I fr G->Go P n0 nt rets R K fr G)->Go P n0 nt rets R (K'++K) fr G):Go P n0 nt rets R (K'++K) fr G:=h2 h1
end
variable {args:List AV}{G:jb}
theorem Ok.endsX{f:Nat}{Q Z:AV->jb->Prop}(h:Ok P f args G Q)
 (hq:∀r G1,Q r G1->∃r2 G2,Z r2 G2/\G2.next=G.next/\(∀id y,G2.get id=some y->G1.get id=some y/\id<G.next/\(G.get id=some y\/∀i j (hi:i<y.2.length) (hj:j<y.2[i].length),Old G.next y.2[i][j]))/\FrzV G1 G.next r r2):
 Ok P f args G Z:=by
 refine⟨h.1,λC cargs hR ha=>(h.2 C cargs hR ha).mono ?_⟩;rintro e w' ⟨D,G1,r,v,rfl,rfl,hQ,hRD,hx,hle⟩;obtain⟨r2,G2,hZ,hnext,hsub,hfrz⟩:=hq r G1 hQ
 let D2:Cx:=⟨D.μ,λid v=>D.F id v/\id<G.next,Mof D.μ G2,D.w⟩
 have hMsub:∀b,D2.M b->D.M b:=by
  rintro b ⟨id,v',es,hg,hne,rfl⟩;exact(hRD.M _).2 ⟨id,v',es,(hsub id _ hg).1,hne,rfl⟩
 have hcut:∀{x:Ce} {u:Value},Rp D x u->Old G.next x->Rp D2 x u:=λhx ho=>Rp.cut (C:=D) (D:=D2) rfl rfl (λid v hf hlt=>⟨hf,hlt⟩) hMsub hx ho;have hRl:Rl D2 G2:=by
  refine⟨λid v hf=>by rw[hnext];exact hf.2,λid v' es hg=>?_,λb=>Iff.rfl,λid v es id' v' es' h1 n1 h2 n2 hb=>?_,λid v' es hg hne=>?_⟩
  ·obtain⟨g1,g2,_⟩:=hsub id _ hg;obtain⟨a1,a2,a3⟩:=hRD.live id v' es g1;exact⟨⟨a1,g2⟩,λv1 hv1=>a2 v1 hv1.1,a3⟩
  ·exact hRD.inj id v es id' v' es' (hsub id _ h1).1 n1 (hsub id' _ h2).1 n2 hb
  ·obtain⟨g1,g2,g3⟩:=hsub id _ hg;obtain⟨cs,t,hb,hz,hl,hc⟩:=hRD.blk id v' es g1 hne;refine⟨cs,t,hb,hz,hl,λi j hi hj=>?_⟩;obtain⟨u,h1,h2⟩:=hc i j hi hj;refine⟨u,h1,hcut h2 ?_⟩;rcases g3 with g3|g3
   ·obtain⟨cs0,t0,hb0,hz0,hl0,hc0⟩:=hR.blk id v' es g3 hne;obtain⟨u0,_,k2⟩:=hc0 i j hi hj;exact k2.old hR.F
   ·exact g3 i j hi hj
 refine⟨D2,G2,r2,v,rfl,rfl,hZ,hRl, ?_, ?_⟩
 ·refine hfrz.sound (D:=D2) hRD rfl rfl (λid v hf hlt=>⟨hf,hlt⟩) hMsub (λid v' es hn hg hne hm=>?_) hx;obtain⟨id2,v2,es2,hg2,hne2,hb⟩:=hm;have g:=hsub id2 _ hg2;have:=hRD.inj id v' es id2 v2 es2 hg hne g.1 hne2 hb.symm;omega
 ·refine⟨λid v hf=>⟨⟨(hle.F id v hf).1,hR.F id v hf⟩,(hle.F id v hf).2⟩,hle.os,hle.tape,hle.output,hle.size,hle.keep,hle.shp,λb hb hm=>hle.M b hb (hMsub b hm)⟩
def encB(b:UInt8):List Ce:=[.int .u8 (b.toNat:Int)]
def rdB(code:List UInt8)(p:Nat):List (List Ce):=[[.fz (code.map encB),.int .i64 (p:Int)]]
def Rd(G:jb)(id v:Nat)(code:List UInt8)(p:Nat):Prop:=G.get id=some (v,rdB code p)/\id<G.next/\p<=code.length/\code.length<=1048576
def Rd.go(G:jb)(id v:Nat)(code:List UInt8)(q:Nat):jb:=G.put id (v,rdB code q)
variable {id v p q:Nat}{code:List UInt8}
theorem Rd.at_(h:Rd G id v code p)(hq:q<=code.length):Rd (Rd.go G id v code q) id v code q:=⟨if_pos rfl,h.2.1,hq,h.2.2.2⟩
theorem Rd.go_go:Rd.go (Rd.go G id v code p) id v code q=Rd.go G id v code q:=by
 simp only[Rd.go,jb.put,jb.mk.injEq,true_and];funext a;split<;>rfl
theorem Rd.same(h:Rd G id v code p):Rd.go G id v code p=G:=by
 cases G with
 |mk nx g=>
  simp only[Rd.go,jb.put,jb.mk.injEq,true_and];funext a;split
  ·rename_i e;subst e;exact h.1.symm
  ·rfl
theorem Rd.E{G:jb}{id v:Nat}{code:List UInt8}{p:Nat}(h:Rd G id v code p)(l:List (Nat×List (List Ce))):Rd (E G l) id v code p:=⟨by rw[E_lt h.2.1];exact h.1,by have:=h.2.1;rw[zan];omega,h.2.2⟩
theorem Rd.go_E(h:id<G.next)(l:List (Nat×List (List Ce))):Rd.go (Am.E G l) id v code q=Am.E (Rd.go G id v code q) l:=by
 have h2:id<(Rd.go G id v code q).next:=h;refine jb.ext rfl λa=>?_;by_cases e:a=id
 ·subst e;rw[E_lt h2];rw[show(Rd.go (Am.E G l) a v code q).get a=some (v,rdB code q)from if_pos rfl,show(Rd.go G a v code q).get a=some (v,rdB code q)from if_pos rfl]
 ·rw[show(Rd.go (Am.E G l) id v code q).get a=(Am.E G l).get a from if_neg e];by_cases hl:a<G.next
  ·rw[E_lt hl,E_lt (show a<(Rd.go G id v code q).next from hl),show(Rd.go G id v code q).get a=G.get a from if_neg e]
  ·rw[E_ge hl,E_ge (show¬a<(Rd.go G id v code q).next from hl)]
   rfl
section
variable {fr:Fr}{G:jb}{id v:Nat}{code:List UInt8}{p0 p:Nat}{x y:Opd}{l:List (Nat×List (List Ce))}
theorem Rd.get_(h:Rd G id v code p0):(Am.E (Rd.go G id v code p) l).get id=some (v,rdB code p):=by
 rw[E_lt (show id<(Rd.go G id v code p).next from h.2.1)];exact if_pos rfl
theorem zja(h:Rd G id v code p0)(hx:x.ev fr=some (.c (.ptr id v 0 0))):aop (.load false 1 x) fr (E (Rd.go G id v code p) l)=some (.c (.fz (code.map encB)),E (Rd.go G id v code p) l):=by
 simp only[aop,hx,jb.at_,h.get_,rdB]
 rfl
theorem jja(h:Rd G id v code p0)(hx:x.ev fr=some (.c (.ptr id v 0 1))):aop (.load false 1 x) fr (E (Rd.go G id v code p) l)=some (.c (.int .i64 (p:Int)),E (Rd.go G id v code p) l):=by
 simp only[aop,hx,jb.at_,h.get_,rdB]
 rfl
theorem wja(h:Rd G id v code p0)(hx:x.ev fr=some (.c (.ptr id v 0 1))){z:Int}{q:Nat}(hy:y.ev fr=some (.c (.int .i64 z)))(hz:z=(q:Int)):aop (.store 1 x y) fr (E (Rd.go G id v code p) l)=some (.un,E (Rd.go G id v code q) l):=by
 subst hz;have h2:aop (.store 1 x y) fr (E (Rd.go G id v code p) l)=some (.un,Rd.go (E (Rd.go G id v code p) l) id v code q):=by
  simp only[aop,hx,hy,AV.cells,Option.bind_some,h.get_,rdB]
  rfl
 rw[h2,Rd.go_E (show id<(Rd.go G id v code p).next from h.2.1),Rd.go_go]
theorem zge{k:IntKind}{a b:Int}(hx:x.ev fr=some (.c (.int k a)))(hy:y.ev fr=some (.c (.int k b)))(hb:b≠0):aop (.bin .rem x y) fr G=some (.c (.int k (a.tmod b)),G):=by
 simp[aop,hx,hy,binA,hb]
end
structure jal(P:Program)(f:Nat)(args:List AV)(Z:AV->Prop):Prop where
 at_:∀(G:jb) (id v:Nat) (code:List UInt8) (p:Nat),Rd G id v code p->Ok P f (.c (.ptr id v 0 0)::args) G (λr V=>∃q,q<=code.length/\Z r/\V=Rd.go G id v code q)
def FinR(G:jb)(id v:Nat)(code:List UInt8)(Z:AV->Prop)(r:AV)(V:jb):Prop:=∃q y l,q<=code.length/\Z y/\V=E (Rd.go G id v code q) l/\FrzV V G.next r y
variable {Z:AV->Prop}
theorem jal.ends{f:Nat}(hr:Rd G id v code p)(h:Ok P f args G (FinR G id v code Z)):Ok P f args G (λr V=>∃q,q<=code.length/\Z r/\V=Rd.go G id v code q):=by
 refine .old' h λhS _=>h.endsX ?_;rintro r G1 ⟨q,y,l,hq,hZ,rfl,hf⟩;refine⟨y,Rd.go G id v code q,⟨q,hq,hZ,rfl⟩,rfl,λa b hb=>?_,hf⟩;have ha:a<G.next:=by
  by_cases e:a=id
  ·rw[e];exact hr.2.1
  ·have:G.get a=some b:=by
    have h2:(Rd.go G id v code q).get a=some b:=hb;rwa [show(Rd.go G id v code q).get a=G.get a from if_neg e]at h2
   exact(hS a b this).1
 refine⟨by rw[E_lt (show a<(Rd.go G id v code q).next from ha)];exact hb,ha, ?_⟩;by_cases e:a=id
 ·right;subst e;have h2:(Rd.go G a v code q).get a=some (v,rdB code q):=if_pos rfl;rw[h2]at hb;injection hb with hb;subst hb;intro i j hi hj;have hold:=(hS a _ hr.1).2;have hi0:i=0:=by simp[rdB]at hi;omega
  subst hi0;have hj2:j=0\/j=1:=by simp[rdB]at hj;omega
  rcases hj2 with rfl|rfl
  ·exact hold 0 0 (by simp[rdB]) (by simp[rdB])
  ·exact .int _ _
 ·left;rwa [show(Rd.go G id v code q).get a=G.get a from if_neg e]at hb
theorem jal.run(hm:P.follows .mixedOrders=true){fz:List Nat}{f:Nat}{af:AFn}(h:ze P fz f=some af){args:List AV}{Z:AV->Prop}(hn:(AV.c .nils::args).length<=af.nt)
 (hg:∀G id v code p,Rd G id v code p->p<=code.length->code.length<=1048576->OldS G->Go P G.next af.nt af.rets (FinR G id v code Z) [.code af.body] (frOf 0 (.c (.ptr id v 0 0)::args)) (E (Rd.go G id v code p) [])):jal P f args Z:=
 ⟨λG id v code p hr=>jal.ends hr (Ok.run hm h hn λhS _=>by
  have:=hg G id v code p hr hr.2.2.1 hr.2.2.2 hS;rwa [hr.same]at this)⟩
variable {l:List (Nat×List (List Ce))}
theorem FinR.c{r:AV}(hq:q<=code.length)(hZ:Z r)(ho:∀y∈r.all,Old G.next y):FinR G id v code Z r (E (Rd.go G id v code q) l):=
 ⟨q,r,l,hq,hZ,rfl,.refl ho⟩
theorem FinR.f{r y:AV}(hq:q<=code.length)(hZ:Z y)(hf:FrzV (E (Rd.go G id v code q) l) G.next r y):FinR G id v code Z r (E (Rd.go G id v code q) l):=
 ⟨q,y,l,hq,hZ,rfl,hf⟩
structure Told(P:Program)(f:Nat)(args:List AV)(Z:AV->Prop):Prop where
 at_:∀G,Ok P f args G (λr V=>Z r/\V=G)
theorem Told.run(hm:P.follows .mixedOrders=true){fz:List Nat}{f:Nat}{af:AFn}(h:ze P fz f=some af){args:List AV}{Z:AV->Prop}(hn:args.length<=af.nt)
 (hg:∀G,OldS G->Go P G.next af.nt af.rets (λr V=>∃y,Z y/\Fin G y r V) [.code af.body] (frOf 0 args) (E G [])):Told P f args Z:=by
 refine⟨λG=>?_⟩;have h1:Ok P f args G (λr V=>∃y,Z y/\Fin G y r V):=Ok.run hm h hn λhS _=>hg G hS;refine .old' h1 λhS _=>h1.endsX ?_;rintro r G1 ⟨y,hZ,l,rfl,hf⟩;exact⟨y,G,⟨hZ,rfl⟩,rfl,λa b hb=>⟨by rw[E_lt (hS a b hb).1];exact hb,(hS a b hb).1,.inl hb⟩,hf⟩
section
variable {P:Program}{n0 nt:Nat}{rets:List RV}{R:AV->jb->Prop}{K:List AK}{fr:Fr}{G:jb}
variable {d:Option Nat}{f:Opd}{g:Option (Nat×Bool)}{rest:List jd}{n:Nat}{as:List AV}
theorem Go.drawn{p0:Nat}{args:List Opd}(hr:Rd G id v code p0)(hq:p<=code.length)(hw:wants fr g=some true)(hf:f.ev fr=some (.c (.fn n [] [])))(ha:evs fr args=some (.c (.ptr id v 0 0)::as))
 (hp:jal P n as Z) (h:∀r q,q<=code.length->Z r->Go P n0 nt rets R (.ops rest::K) (putA fr d r) (E (Rd.go G id v code q) l)):Go P n0 nt rets R (.ops (⟨d,.call f args,g⟩::rest)::K) fr (E (Rd.go G id v code p) l):=
 .call _ hw hf ha (by simpa using hp.at_ (E (Rd.go G id v code p) l) id v code p ((hr.at_ hq).E l)) (by
  rintro r V ⟨q,hq2,hZ,rfl⟩;rw[Rd.go_E (show id<(Rd.go G id v code p).next from hr.2.1),Rd.go_go];exact h r q hq2 hZ)
theorem Go.qr{seg:List jd}{rest:List (List jd)}(l0:List (Nat×List (List Ce)))(hl:l=l0)
 (h:Qx P (λq l=>E (Rd.go G id v code q) l) (λl=>∃m,l=l0++m) (λF q l=>Go P n0 nt rets R (.segs rest::K) F (E (Rd.go G id v code q) l)) seg fr q l):Go P n0 nt rets R (.segs (seg::rest)::K) fr (E (Rd.go G id v code q) l):=
 .qx (λq l=>E (Rd.go G id v code q) l) (λl=>∃m,l=l0++m) _ q l (λa b b' e=>wky e) ⟨[],by rw[ybe];exact hl⟩ h λ_ _ _ h=>h
variable {Y:Fr->Nat->List (Nat×List (List Ce))->Prop}
theorem Qx.drawn{p0:Nat}{I:List (Nat×List (List Ce))->Prop}{args:List Opd}(hr:Rd G id v code p0)(hq:p<=code.length)(hw:wants fr g=some true)(hf:f.ev fr=some (.c (.fn n [] [])))(ha:evs fr args=some (.c (.ptr id v 0 0)::as))
 (hp:jal P n as Z) (h:∀r q,q<=code.length->Z r->Qx P (λq l=>E (Rd.go G id v code q) l) I Y rest (putA fr d r) q l):Qx P (λq l=>E (Rd.go G id v code q) l) I Y (⟨d,.call f args,g⟩::rest) fr p l:=
 .call (λr q=>q<=code.length/\Z r) hw hf ha (λb _=>by
  have:=hp.at_ (E (Rd.go G id v code p) b) id v code p ((hr.at_ hq).E b);refine(by simpa using this:Ok P n (([]:List Ce).map .c++(.c (.ptr id v 0 0)::as)++([]:List Ce).map .c) _ _).mono ?_;rintro r V ⟨q,hq2,hZ,rfl⟩;exact⟨q,⟨hq2,hZ⟩,by rw[Rd.go_E (show id<(Rd.go G id v code p).next from hr.2.1),Rd.go_go]⟩) λr q ⟨h1,h2⟩=>h r q h1 h2
variable {l0:List (Nat×List (List Ce))}
theorem Qx.alloc{z:List Ce}(hw:wants fr g=some true)(hl:∃m,l=l0++m)(h:Qx P (λq l=>E (Rd.go G id v code q) l) (λl=>∃m,l=l0++m) Y rest (putA fr d (.c (.ptr (G.next+l.length) 0 0 0))) q (l++[(0,[z])])):
 Qx P (λq l=>E (Rd.go G id v code q) l) (λl=>∃m,l=l0++m) Y (⟨d,.op (.alloc z),g⟩::rest) fr q l:=
 .wop rfl hw (λa=>zg3) (by obtain⟨m,rfl⟩:=hl;exact⟨m++[(0,[z])],by rw[ybn]⟩) h
variable {es:List (List Ce)}{e:List Ce}
theorem wck{k u i j:Nat}{gg:Bool}{s:Nat}{a:Opd}{x:AV}(ha:a.ev fr=some (.c (.ptr (G.next+k) u i j)))(hl:l0[k]?=some (u,es))(he:es[i]?=some e)(hj:Nat.ble j e.length=true)(hx:wbw gg s (e.drop j)=some x):
 ∀(q:Nat) (l:List (Nat×List (List Ce))),(∃m,l=l0++m)->aop (.load gg s a) fr (E (Rd.go G id v code q) l)=some (x,E (Rd.go G id v code q) l):=by
 rintro q _ ⟨m,rfl⟩;have hk:k<l0.length:=(List.getElem?_eq_some_iff.1 hl).1;exact zaj (G:=Rd.go G id v code q) ha (by rw[yba hk];exact hl) he (yam hj) hx
theorem zit{k u i m s c:Nat}{x y:Opd}{kd:IntKind}{z:Int}(hx:x.ev fr=some (.c (.sl (G.next+k) u i m c)))(hy:y.ev fr=some (.c (.int kd z)))(hz:z=(n:Int))(hn:n<m)(hl:l0[k]?=some (u,es))(he:es[i+n]?=some e)(hs:e.length=s):
 ∀(q:Nat) (l:List (Nat×List (List Ce))),(∃m,l=l0++m)->aop (.iaddr s x y) fr (E (Rd.go G id v code q) l)=some (.c (.ptr (G.next+k) u (i+n) 0),E (Rd.go G id v code q) l):=by
 rintro q _ ⟨m',rfl⟩;have hk:k<l0.length:=(List.getElem?_eq_some_iff.1 hl).1;exact wq hx hy hz hn (jck (G:=Rd.go G id v code q) (by rw[yba hk];exact hl)) he hs
theorem Go.told{args:List Opd}{pre cap:List Ce}{vs:List AV}(hw:wants fr g=some true)(hf:f.ev fr=some (.c (.fn n pre cap)))(ha:evs fr args=some vs)
 (hp:Told P n (pre.map .c++vs++cap.map .c) Z) (h:∀r,Z r->Go P n0 nt rets R (.ops rest::K) (putA fr d r) G):Go P n0 nt rets R (.ops (⟨d,.call f args,g⟩::rest)::K) fr G:=
 .call _ hw hf ha (hp.at_ G) (by rintro r' G' ⟨hz,rfl⟩;exact h r' hz)
end
def jdj(g:Bool)(s:Nat):AFn:=⟨19,[.t 4],(.seq (.region [⟨some 4,.op (.mv (.k (.int .i64 0))),none⟩]) (.seq (.seq (.region [⟨some 6,.op (.mv (.t 0)),none⟩,⟨some 7,.op (.len false (.t 6)),none⟩,⟨some 8,.op (.mv (.k (.int .i64 0))),none⟩]) (.block 0 (.loop (.seq (.region [⟨some 9,.op (.bin .lss (.t 8) (.t 7)),none⟩]) (.seq (.cond (.t 9) .skip (.exit 0)) (.seq (.block 1 (.seq (.region [⟨some 10,.op (.mv (.t 8)),none⟩,⟨some 5,.op (.mv (.t 10)),none⟩]) (.seq (.region [⟨some 11,.op (.mv (.t 1)),none⟩,⟨some 12,.op (.mv (.t 0)),none⟩,⟨some 13,.op (.mv (.t 5)),none⟩,⟨some 14,.op (.iaddr s (.t 12) (.t 13)),none⟩,⟨some 15,.op (.load g s (.t 14)),none⟩,⟨some 16,.call (.t 11) [(.t 15)],none⟩]) (.cond (.t 16) (.seq (.region [⟨some 17,.op (.mv (.t 5)),none⟩,⟨some 4,.op (.mv (.t 17)),none⟩]) .ret) .skip)))) (.region [⟨some 18,.op (.bin .add (.t 8) (.k (.int .i64 1))),none⟩,⟨some 8,.op (.mv (.t 18)),none⟩]))))))) (.seq (.region [⟨some 4,.op (.mv (.k (.int .i64 (-1)))),none⟩]) .ret)))⟩
def idxA{α:Type}(p:α->Bool):List α->Int->Int
 |[],_=>-1
 |a::r,i=>if p a then i else idxA p r (i+1)
theorem wih{α:Type}{p:α->Bool}:∀{l:List α} {i:Int},0<=i->(l.any p=true↔0<=idxA p l i)
 |[],i,h=>by simp[idxA]
 |a::r,i,h=>by
  have:=wih (p:=p) (l:=r) (i:=i+1) O;simp only[List.any_cons,idxA]
  cases p a
  ·simp only[Bool.false_or,Bool.false_eq_true,if_false];exact this
  ·simp[h]
theorem zjb{fr:Fr}{g:Bool}{s:Nat}{a:Opd}{cs:List Ce}{v:AV}(ha:a.ev fr=some (.c (.fp cs)))(h:wbw g s cs=some v):aop (.load g s a) fr G=some (v,G):=by
 simp[aop,ha,jb.at_,h]
theorem wbf(hm:P.follows .mixedOrders=true){fz:List Nat}{n s:Nat}{g:Bool}(hc:ze P fz n=some (jdj g s)){α:Type}(enc:α->List Ce)(arg:α->AV)(hs:∀a,(enc a).length=s)(harg:∀a,wbw g s (enc a)=some (arg a))(l:List α)(p:α->Bool)(f:Nat)(pre cap:List Ce)(hx:l.length<=34359738368)
 (hp:∀i (hi:i<l.length),(∀j (hj:j<i),p (l[j]'O)=false)->Pure P f (pre.map .c++[arg l[i]]++cap.map .c) (.c (.bool (p l[i])))):Pure P n [.c (.fz (l.map enc)),.c (.fn f pre cap)] (.c (.int .i64 (idxA p l 0))):=by
 refine Pure.run hm hc gz λG hS hA=>?_;clear hS hA;repeat' first|refine X ?_|exact yaF|refine yaS ?_ ?_<;>intro _
 refine Go.keep [0,1,7,8] (Go.loops (I:=λm fr V=>∃i:Nat,∃k:Int,m=l.length-i/\i<=l.length/\k=i/\(idxA p l 0=idxA p (l.drop i) k/\∀j (hj:j<i) (hl:j<l.length),p l[j]=false)/\
  fr=[(0,.c (.fz (l.map enc))),(1,.c (.fn f pre cap)),(7,.c (.int .i64 (l.length:Int))),(8,.c (.int .i64 k))]/\V=E G []) ?_ _ _ _ ⟨0,_,rfl,yac _,rfl,⟨rfl,λj hj=>O⟩,rfl,rfl⟩)
 rintro m fr V ⟨i,k,rfl,hi,hn,⟨hsl,hno⟩,rfl,rfl⟩ hrec;by_cases hlt:i<l.length
 ·repeat' first|refine X ?_|((first|apply yG|apply yH|apply yI);exact rfl;(first|exact yX (enc:=enc) rfl rfl hn hlt (hs _)|exact zjb rfl (harg l[i])))|((first|apply Go.pcallB|apply Go.spcallB|apply Qg.pcallB);(iterate 3 exact rfl);exact hp i hlt (λj hj=>hno j hj O);intro _ _)|exact yaF|refine yaS ?_ ?_<;>intro _
  ·refine .ret rfl (.int ?_);rw[hsl,List.drop_eq_getElem_cons hlt,idxA,if_pos (by simp_all)]
  ·rename_i b hb h;refine Go.keep [0,1,7,8] (hrec _ _ _ O ⟨i+1,_,rfl,hlt,wb hn O,⟨?_,λj hj hl=>?_⟩,rfl,rfl⟩)
   ·rw[hsl,List.drop_eq_getElem_cons hlt,idxA,if_neg (by rw[hb,h];simp),zk O O]
   ·by_cases e:j=i
    ·subst e;rw[hb,h]
    ·exact hno j O hl
 ·repeat' first|refine X ?_|exact yaF|refine yaS ?_ ?_<;>intro _
  refine .ret rfl (.int ?_);rw[hsl,yad O]
  rfl
def zcf(f:Nat):AFn:=⟨9,[.t 4],(.seq (.region [⟨some 4,.op (.mv (.k (.bool false))),none⟩]) (.seq (.region [⟨some 5,.op (.mv (.t 0)),none⟩,⟨some 6,.op (.mv (.t 1)),none⟩,⟨some 7,.call (.f f) [(.t 5),(.t 6)],none⟩,⟨some 8,.op (.bin .geq (.t 7) (.k (.int .i64 0))),none⟩,⟨some 4,.op (.mv (.t 8)),none⟩]) .ret))⟩
theorem jbl{α:Type}{p:α->Bool}{l:List α}:decide (0<=idxA p l 0)=l.any p:=by
 have:=wih (p:=p) (l:=l) (i:=0) O
 cases h:l.any p
 ·rw[decide_eq_false_iff_not,<-this,h];simp
 ·rw[decide_eq_true_iff,<-this,h]
theorem wi(hm:P.follows .mixedOrders=true){fz fz':List Nat}{n n' s:Nat}{g:Bool}(hc:ze P fz n=some (zcf n'))(hc':ze P fz' n'=some (jdj g s)){α:Type}(enc:α->List Ce)(arg:α->AV)(hs:∀a,(enc a).length=s)(harg:∀a,wbw g s (enc a)=some (arg a))(l:List α)(p:α->Bool)(f:Nat)(pre cap:List Ce)(hx:l.length<=34359738368)
 (hp:∀i (hi:i<l.length),(∀j (hj:j<i),p (l[j]'O)=false)->Pure P f (pre.map .c++[arg l[i]]++cap.map .c) (.c (.bool (p l[i])))):Pure P n [.c (.fz (l.map enc)),.c (.fn f pre cap)] (.c (.bool (l.any p))):=by
 refine Pure.run hm hc gz λG hS hA=>?_;clear hS hA;repeat' first|refine X ?_|refine yaC (wbf hm hc' enc arg hs harg l p f pre cap hx hp) ?_|exact yaF|refine yaS ?_ ?_<;>intro _
 exact .ret rfl (.bool jbl)
def zd9:AFn:=⟨19,[.t 4],(.seq (.region [⟨some 4,.op (.mv (.k (.int .i64 0))),none⟩]) (.seq (.seq (.region [⟨some 6,.op (.mv (.t 0)),none⟩,⟨some 7,.op (.len false (.t 6)),none⟩,⟨some 8,.op (.mv (.k (.int .i64 0))),none⟩]) (.block 0 (.loop (.seq (.region [⟨some 9,.op (.bin .lss (.t 8) (.t 7)),none⟩]) (.seq (.cond (.t 9) .skip (.exit 0)) (.seq (.block 1 (.seq (.region [⟨some 10,.op (.mv (.t 8)),none⟩,⟨some 5,.op (.mv (.t 10)),none⟩]) (.seq (.region [⟨some 11,.op (.mv (.t 1)),none⟩,⟨some 12,.op (.mv (.t 0)),none⟩,⟨some 13,.op (.mv (.t 5)),none⟩,⟨some 14,.op (.iaddr 1 (.t 12) (.t 13)),none⟩,⟨some 15,.op (.load false 1 (.t 14)),none⟩,⟨some 16,.op (.bin .eql (.t 11) (.t 15)),none⟩]) (.cond (.t 16) (.seq (.region [⟨some 17,.op (.mv (.t 5)),none⟩,⟨some 4,.op (.mv (.t 17)),none⟩]) .ret) .skip)))) (.region [⟨some 18,.op (.bin .add (.t 8) (.k (.int .i64 1))),none⟩,⟨some 8,.op (.mv (.t 18)),none⟩]))))))) (.seq (.region [⟨some 4,.op (.mv (.k (.int .i64 (-1)))),none⟩]) .ret)))⟩
theorem whs(hm:P.follows .mixedOrders=true){fz:List Nat}{n:Nat}(hc:ze P fz n=some zd9)(l:List Int)(v:Int)(hx:l.length<=34359738368):Pure P n [.c (.fz (l.map λn=>[.int .i64 n])),.c (.int .i64 v)] (.c (.int .i64 (idxA (λa=>v==a) l 0))):=by
 refine Pure.run hm hc gz λG hS hA=>?_;clear hS hA;repeat' first|refine X ?_|exact yaF|refine yaS ?_ ?_<;>intro _
 refine Go.keep [0,1,7,8] (Go.loops (I:=λm fr V=>∃i:Nat,∃k:Int,m=l.length-i/\i<=l.length/\k=i/\idxA (λa=>v==a) l 0=idxA (λa=>v==a) (l.drop i) k/\
  fr=[(0,.c (.fz (l.map λn=>[.int .i64 n]))),(1,.c (.int .i64 v)),(7,.c (.int .i64 (l.length:Int))),(8,.c (.int .i64 k))]/\V=E G []) ?_ _ _ _ ⟨0,_,rfl,yac _,rfl,rfl,rfl,rfl⟩)
 rintro m fr V ⟨i,k,rfl,hi,hn,hsl,rfl,rfl⟩ hrec;by_cases hlt:i<l.length
 ·repeat' first|refine X ?_|((first|apply yG|apply yH|apply yI);exact rfl;(first|exact yX (enc:=λn=>[.int .i64 n]) rfl rfl hn hlt rfl))|exact yaF|refine yaS ?_ ?_<;>intro _
  ·refine .ret rfl (.int ?_);rw[hsl,List.drop_eq_getElem_cons hlt,idxA,if_pos (by simp_all)]
  ·rename_i h;refine Go.keep [0,1,7,8] (hrec _ _ _ O ⟨i+1,_,rfl,hlt,wb hn O, ?_,rfl,rfl⟩);rw[hsl,List.drop_eq_getElem_cons hlt,idxA,if_neg (by simpa using h),zk O O]
 ·repeat' first|refine X ?_|exact yaF|refine yaS ?_ ?_<;>intro _
  refine .ret rfl (.int ?_);rw[hsl,yad O]
  rfl
theorem jfn(hm:P.follows .mixedOrders=true){fz fz':List Nat}{n n':Nat}(hc:ze P fz n=some (zcf n'))(hc':ze P fz' n'=some zd9)(l:List Int)(v:Int)(hx:l.length<=34359738368):Pure P n [.c (.fz (l.map λn=>[.int .i64 n])),.c (.int .i64 v)] (.c (.bool (l.any λa=>v==a))):=by
 refine Pure.run hm hc gz λG hS hA=>?_;clear hS hA;repeat' first|refine X ?_|refine yaC (whs hm hc' l v hx) ?_|exact yaF|refine yaS ?_ ?_<;>intro _
 exact .ret rfl (.bool jbl)
end Go.Proofs.YtedaadaaibofaaaGreat.Am
namespace Go.Proofs.YtedaadaaibofaaaGreat.Am
open Go.RowKit Go.ChangeShapes Go.WideShapes

def Cx.at(W:World):Cx:=⟨λ_ _=>⟨0,0,0,false⟩,λ_ _=>False,λ_=>False,W⟩
theorem Rl.at(W:World):Rl (Cx.at W) (jb.none 0):=
 ⟨λ_ _ h=>h.elim,λid v es hg=>by simp[jb.none]at hg,λb=>⟨λh=>h.elim,λ⟨id,v,es,hg,_⟩=>by simp[jb.none]at hg⟩,λid v es id' v' es' hg=>by simp[jb.none]at hg,λid v es hg=>by simp[jb.none]at hg⟩
theorem jj7{D:Cx}{b:Bool}{v:Value}(h:RpV D (.c (.bool b)) v):v=.bool b:=by
 cases h with
 |c h=>cases h;rfl
theorem Pure.calls{P:Program}{f:Nat}{args:List AV}{b:Bool}(h:Pure P f args (.c (.bool b))){W:World}{cargs:Array Value}(ha:∃hl:cargs.size=args.length,∀i (hi:i<args.length),RpV (Cx.at W) args[i] (cargs[i]'O)):
 Calls P f cargs W λe w'=>e=.returned (.bool b)/\Below W.heap.size W w':=by
 refine((h.at_ (jb.none 0)).2 (Cx.at W) cargs (Rl.at W) ha).mono ?_;rintro e w' ⟨D,G',r,v,rfl,rfl,⟨rfl,rfl⟩,hR,hv,hle⟩;exact⟨by rw[jj7 hv],⟨hle.os,hle.tape,hle.output,hle.size,λk hk=>hle.keep k hk (λh=>h.elim)⟩⟩

section
variable {H:Type}{enc:TypeId×Value->H}{P:Program}{W:World}
structure zbq(enc:TypeId×Value->H)(P:Program)(W:World)(t:TypeId){α:Type}(e:α->List Ce)(good:α->Prop):Prop where
 op:∀fuel cs x,DataW.trod enc P W 0 (λ_=>true) true fuel t cs=some x->(∀n∈x.1.weights P t,n<=reachBytes)->
  ∃a,good a/\∃hl:cs.length=(e a).length,∀i (hi:i<(e a).length),Rp (Cx.at W) (e a)[i] (cs[i]'O)
variable {t:TypeId}{α:Type}
theorem zbq.one{e:α->List Ce}{good:α->Prop}(h:∀fuel cs x,DataW.trod enc P W 0 (λ_=>true) true fuel t cs=some x->(∀n∈x.1.weights P t,n<=reachBytes)->∃a y v,good a/\e a=[y]/\cs=[v]/\Rp (Cx.at W) y v):zbq enc P W t e good:=by
 constructor;intro fuel cs x h1 h2;obtain⟨a,y,v,hg,he,rfl,hr⟩:=h fuel cs x h1 h2;refine⟨a,hg,by simp[he],λi hi=>?_⟩;have hi':i=0:=by rw[he]at hi;simpa using hi
 subst hi';simp only[he,List.getElem_cons_zero];exact hr
theorem zbq.iso{β:Type}{e:β->List Ce}{good:β->Prop}(h:zbq enc P W t e good)(g:β->α){e':α->List Ce}{good':α->Prop}(he:∀b,e' (g b)=e b)(hg:∀b,good b->good' (g b)):zbq enc P W t e' good':=by
 constructor;intro fuel cs x h1 h2;obtain⟨a,h3,hl,h4⟩:=h.op fuel cs x h1 h2;refine⟨g a,hg a h3,by rw[he];exact hl,λi hi=>?_⟩;simp only[he];exact h4 i (by rw[he]at hi;exact hi)
theorem zbq.int{k:IntKind}(ht:P.underlying t=some (.int k)):zbq enc P W t (λn:Int=>[.int k n]) (λn=>(Lit.int k n).wf=true):=by
 refine zbq.one λfuel cs x h1 _=>?_;obtain⟨n,rfl,rfl,hw⟩:=DataW.trod_int ht h1;exact⟨n,_,_,hw,rfl,rfl,.int k n⟩
theorem jex{α:Type}{p:Nat->α->Prop}:∀n,(∀i,i<n->∃a,p i a)->∃l:List α,l.length=n/\∀i (hi:i<l.length),p i l[i]
 |0,_=>⟨[],rfl,λi hi=>by simp at hi⟩
 |n+1,h=>by
  obtain⟨l,h1,h2⟩:=jex n λi hi=>h i O;obtain⟨a,ha⟩:=h n O;refine⟨l++[a],by simp[h1],λi hi=>?_⟩;by_cases e:i<l.length
  ·rw[yarq e];exact h2 i e
  ·have:i=l.length:=by simp at hi;omega
   subst this;have e1:(l++[a])[l.length]'hi=a:=by rw[List.getElem_append_right (Nat.le_refl _)];simp
   rw[e1,h1];exact ha
theorem jc7{e:TypeId}:∀{l:List (DataW H)} {d:DataW H} {n:Nat},d∈l->n∈d.weights P e->n∈DataW.weightsAll P e l
 |y::r,d,n,h,hn=>by
  simp only[DataW.weightsAll,List.mem_append];rcases List.mem_cons.1 h with rfl|h
  ·exact .inl hn
  ·exact .inr (jc7 h hn)
theorem jjb{a:Addr}(h:a.spot=none)(m j:Nat):(a.add m).add j=⟨a.block,a.off+(m+j),none⟩:=by
 obtain⟨b,o,s⟩:=a;subst h;simp only[Addr.add];split<;>split<;>simp_all[Nat.add_assoc]
theorem wg3{w:World}{a:Addr}{v:Value}(h:w.cell? a=some v):a.spot=none/\a.block<w.heap.size:=by
 unfold World.cell? at h;split at h
 ·rename_i hb;refine⟨?_, ?_⟩
  ·split at h
   ·cases h
   ·rename_i hs;simpa using hs
  ·exact(Array.getElem?_eq_some_iff.1 hb).1
 ·cases h
theorem zbq.slice{el:TypeId}{e:α->List Ce}{good:α->Prop}{s:Nat}(ht:P.underlying t=some (.slice el))(h:zbq enc P W el e good)(hs:P.cellsOf el=s)(hs0:0<s)(he:∀a,(e a).length=s):
 zbq enc P W t (λl:List α=>[.fz (l.map e)]) (λl=>l.length*P.bytesOf el<=140737488351232/\∀a∈l,good a):=by
 refine zbq.one λfuel cs x h1 h2=>?_;rcases DataW.trod_slice ht h1 with⟨rfl,rfl⟩|⟨a,len,cap,elems,rest,n,_,rfl,rfl,hb,hl,hm,hlen,hel,hsp,hns⟩
 ·exact⟨[],_,_,⟨gx,gx⟩,rfl,rfl,.fz0 _ _⟩
 rw[hs]at hel;have each:∀i,i<len->∃y,good y/\∀j (hj:j<(e y).length),∃v,W.cell? ((a.add (i*s)).add j)=some v/\Rp (Cx.at W) (e y)[j] v:=by
  intro i hi;have hi':i<elems.length:=O;have h3:=hel i hi;rw[yag hi',Option.bind_eq_some_iff]at h3;obtain⟨cs,hc,hd⟩:=h3;obtain⟨y,hy,hl,hr⟩:=h.op n cs _ hd (λm hm=>h2 m (by
   simp only[DataW.weights,ht];refine List.mem_cons_of_mem _ (List.mem_append_left _ (jc7 (d:=elems[i].1) (List.mem_map_of_mem (yaa hi')) hm))))
  obtain⟨_,hcl,hcc⟩:=World.cells?_some hc;refine⟨y,hy,λj hj=>⟨cs[j]'O, ?_,hr j hj⟩⟩;rw[hcc j (by rw[<-he y];exact hj),yag]
 obtain⟨l,hll,hl2⟩:=jex len each;refine⟨l,_,_,⟨?_,λy hy=>?_⟩,rfl,rfl, ?_⟩
 ·have:=h2 _ (by
   simp only[DataW.weights,ht];exact List.mem_cons_self)
  simp only[List.length_map]at this;have h5:l.length*P.bytesOf el<=(elems.length+rest.length)*P.bytesOf el:=yapq _ O;exact yai h5 this
 ·obtain⟨i,hi,rfl⟩:=List.mem_iff_getElem.1 hy;exact(hl2 i hi).1
 ·rcases ybd len with h0|h0
  ·have hl0:l=[]:=yan O;subst hl0;subst h0;exact .fz0 _ _
  ·obtain⟨v0,hv0,_⟩:=(hl2 0 O).2 0 (by rw[he];exact hs0);have hsp0:a.spot=none/\a.block<W.heap.size:=by
    have:=wg3 hv0;simpa [Addr.add]using this
   obtain⟨b,o,sp⟩:=a;obtain⟨rfl,hbl⟩:=hsp0;have hlm:(l.map e).length=len:=by simp[hll]
   have key:=Rp.fz (C:=Cx.at W) (l.map e) b o cap s (λi j=>(W.cell? ⟨b,o+(i*s+j),none⟩).getD .nilFunc) hbl (λh=>h.elim) O (λi hi=>by simp[he]) (λi j hi hj=>by
    rw[hlm]at hi;obtain⟨v,hv,_⟩:=(hl2 i O).2 j (by rw[he];exact hj);rw[jjb rfl]at hv;show W.cell? _=_;rw[hv]
    rfl) (λi j hi hj=>by
    rw[hlm]at hi;have hj':j<(e (l[i]'O)).length:=by simpa using hj
    obtain⟨v,hv,hr⟩:=(hl2 i O).2 j hj';rw[jjb rfl]at hv;simp only[hv,Option.getD_some,List.getElem_map];exact hr)
   rw[hlm]at key;exact key

theorem zbq.c{e:α->Ce}{good:α->Prop}(h:zbq enc P W t (λa=>[e a]) good){v:Value}(hv:v.cells=#[v]){d:DataW H}{ps:List MemPlace}(hd:DataW.Trod enc P W 0 (λ_=>true) true t v d ps)(hw:∀n∈d.weights P t,n<=reachBytes):
 ∃a,good a/\RpV (Cx.at W) (.c (e a)) v:=by
 obtain⟨fuel,hf⟩:=hd;rw[hv]at hf;obtain⟨a,ha,hl,hr⟩:=h.op fuel _ _ hf hw;exact⟨a,ha,.c (hr 0 gx)⟩
theorem zht{el:TypeId}(ht:P.underlying t=some (.slice el)){r:Reach}{b0:Nat}{v:Value}(hv:Value.okWide P W r b0 t v):v.cells=#[v]:=by
 obtain⟨a,len,cap,rfl⟩:=okWide_slice ht hv
 rfl
end
end Go.Proofs.YtedaadaaibofaaaGreat.Am
