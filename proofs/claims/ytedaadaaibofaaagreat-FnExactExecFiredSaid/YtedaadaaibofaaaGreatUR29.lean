/- The statement of the law FnExactExecFired: whatever its arguments are, it returns true, leaves what was there as it was, and ends. No condition. -/
import Derived.Test.YtedaadaaibofaaaGreatRows
import Derived.WalkKit
import Derived.ProofKit
import Derived.OpenShut
import Derived.ShutString
import Derived.ChangeOld
import Derived.Below
import Derived.SizedLaws
import Derived.Test.YtedaadaaibofaaaGreatU1
import Derived.Test.YtedaadaaibofaaaGreatU2
import Derived.Test.YtedaadaaibofaaaGreatU3
import Derived.Test.YtedaadaaibofaaaGreatU4
import Derived.Test.YtedaadaaibofaaaGreatU5
import Derived.Test.YtedaadaaibofaaaGreatU6
set_option maxHeartbeats 1000000
set_option linter.unusedVariables false
set_option linter.unusedSimpArgs false
namespace Go.Proofs.YtedaadaaibofaaaGreat.Am
theorem ExecFired_sound(s:List zd)(l:List we)(db:List Data)(x:Stmt)(b0_1:s.length<=1125899906842624)(b0_2:∀x∈s,zah 1125899906842624 x)(b1_1:l.length<=1125899906842624)(b1_2:∀x∈l,w9 1125899906842624 x)(b2_1:db.length<=1125899906842624)(b2_2:∀x∈db,jbz 1125899906842624 x)(b3_1:zes 1125899906842624 x):Pure Tryz.prog 3 [.c (.fz (s.map ja)),.c (.fz (l.map wc)),.c (.fz (db.map jb)),.agg (zi x)] (.c (.bool true)):=by
 refine Pure.run2 mixed wbw gz λG hS=>?_;clear hS;have hend:∀V:wa,(∀id,id<G.next->V.get id=G.get id)->Ends G (.c (.bool true)) (.c (.bool true)) V:=λV h=>⟨h,zjf⟩;have hold:∀id,id<G.next->(E G []).get id=G.get id:=λid h=>E_lt h;have hm0:G.next<=(E G []).next:=by rw[z4];omega
 generalize E G []=V0 at hold hm0⊢;repeat' first|refine X ?_|exact yaF|refine Y ?_ ?_<;>intro _
 have z0:=zac zd7 s 1048576 O;have f0:=λ(h:0<=szL zba s 1048576)=>waq (N:=34359738368) zd7 (λa l N h0 h hl=>wlp a l N h0 h hl) (xs:=s) (l:=1048576) O h O;have c0:=λ(h:0<=szL zba s 1048576)=>zaf zd7 zj9 s 1048576 O h;refine .pcall rfl rfl rfl (wj1 s 1048576 b0_1 b0_2 O O) ?_;generalize szL zba s 1048576=l0 at z0 f0 c0⊢;repeat' first|refine X ?_|exact yaF|refine Y ?_ ?_<;>intro _
 ·exact .ret rfl (hend _ hold)
 rename_i g0;obtain⟨h0_1,h0_2⟩:=f0 O;have c0:=c0 O;clear f0 b0_1 b0_2;repeat' first|refine X ?_|exact yaF|refine Y ?_ ?_<;>intro _
 have z1:=zac wch l l0 O;have f1:=λ(h:0<=szL wah l l0)=>waq (N:=34359738368) wch (λa l N h0 h hl=>zj2 a l N h0 h hl) (xs:=l) (l:=l0) O h O;have c1:=λ(h:0<=szL wah l l0)=>zaf wch jif l l0 O h;refine .pcall rfl rfl rfl (wia l l0 b1_1 b1_2 O O) ?_;generalize szL wah l l0=l1 at z1 f1 c1⊢;repeat' first|refine X ?_|exact yaF|refine Y ?_ ?_<;>intro _
 ·exact .ret rfl (hend _ hold)
 rename_i g1;obtain⟨h1_1,h1_2⟩:=f1 O;have c1:=c1 O;clear f1 b1_1 b1_2;repeat' first|refine X ?_|exact yaF|refine Y ?_ ?_<;>intro _
 have z2:=zac jfm db l1 O;have f2:=λ(h:0<=szL jes db l1)=>waq (N:=34359738368) jfm (λa l N h0 h hl=>wm1 a l N h0 h hl) (xs:=db) (l:=l1) O h O;have c2:=λ(h:0<=szL jes db l1)=>zaf jfm zk6 db l1 O h;refine .pcall rfl rfl rfl (wk4 db l1 b2_1 b2_2 O O) ?_;generalize szL jes db l1=l2 at z2 f2 c2⊢;repeat' first|refine X ?_|exact yaF|refine Y ?_ ?_<;>intro _
 ·exact .ret rfl (hend _ hold)
 rename_i g2;obtain⟨h2_1,h2_2⟩:=f2 O;have c2:=c2 O;clear f2 b2_1 b2_2;repeat' first|refine X ?_|exact yaF|refine Y ?_ ?_<;>intro _
 have z3:=zm0 x l2 O;have f3:=λ(h:0<=zd9 x l2)=>jm0 x l2 34359738368 O h O;have c3:=λ(h:0<=zd9 x l2)=>jle x l2 O h;refine .pcall rfl rfl rfl (jlx x l2 b3_1 O O) ?_;generalize zd9 x l2=l3 at z3 f3 c3⊢;repeat' first|refine X ?_|exact yaF|refine Y ?_ ?_<;>intro _
 ·exact .ret rfl (hend _ hold)
 rename_i g3;have h3_1:=f3 O;have c3:=c3 O;clear f3 b3_1;have cn0:=ze (c:=jav) zc5 s;have cn1:=ze (c:=zab) wcc l;have cn2:=ze (c:=wo) jay db;have cn3:=zhb x;have himpl:=zim s l db x h0_1 h0_2 h1_1 h1_2 h2_1 h2_2 h3_1;have hspec:=jim s l db x h0_1 h0_2 h1_1 h1_2 h2_1 h2_2 h3_1;have t0:=New.pure (wds s h0_1 h0_2);have t1:=New.pure (zci l h1_1 h1_2);have t2:=New.pure (wes db h2_1 h2_2);have t3:=NewL.pure (jgk x h3_1);obtain⟨w1,w2,w3⟩:=wha s l db x h0_1 h0_2 h1_1 h1_2 h2_1 h2_2 h3_1;generalize (ExT s l db x).1=ws at himpl hspec w1 w2 w3;generalize (ExT s l db x).2.1=B1 at himpl hspec;generalize (ExT s l db x).2.2=B2 at himpl hspec;repeat' first|refine X ?_|refine yaC (t0) ?_|refine yaC (t1) ?_|refine yaC (t2) ?_|refine yaC (t3) ?_|exact yaF|refine Y ?_ ?_<;>intro _
 first|refine .spcall rfl rfl rfl hspec ?_|refine .pcall rfl rfl rfl hspec ?_
 repeat' first|refine X ?_|exact yaF|refine Y ?_ ?_<;>intro _
 first|refine .call _ rfl rfl rfl (wds s h0_1 h0_2 _) ?_|refine .scall _ rfl rfl rfl (wds s h0_1 h0_2 _) ?_
 intro r V1 hq;obtain⟨x0,rfl,gr,hh0⟩:=New.openC hq;have hold:∀id,id<G.next->V1.get id=G.get id:=λid h=>(gr.lt O).trans (hold id h);have hm1:=gr.next;generalize hmq0:V0.next=m0 at hm0 hm1 hh0;clear hq gr hmq0;repeat' first|refine X ?_|exact yaF|refine Y ?_ ?_<;>intro _
 first|refine .call _ rfl rfl rfl (zci l h1_1 h1_2 _) ?_|refine .scall _ rfl rfl rfl (zci l h1_1 h1_2 _) ?_
 intro r V2 hq;obtain⟨x1,rfl,gr,hh1⟩:=New.openC hq;have hh0:=hh0.frame λa ha=>gr.lt (by have:=ha.2;omega);have hold:∀id,id<G.next->V2.get id=G.get id:=λid h=>(gr.lt O).trans (hold id h);have hm2:=gr.next;generalize hmq1:V1.next=m1 at hm1 hm2 hh1;simp only[hmq1]at hh0;clear hq gr hmq1;repeat' first|refine X ?_|exact yaF|refine Y ?_ ?_<;>intro _
 first|refine .call _ rfl rfl rfl (wes db h2_1 h2_2 _) ?_|refine .scall _ rfl rfl rfl (wes db h2_1 h2_2 _) ?_
 intro r V3 hq;obtain⟨x2,rfl,gr,hh2⟩:=New.openC hq;have hh0:=hh0.frame λa ha=>gr.lt (by have:=ha.2;omega);have hh1:=hh1.frame λa ha=>gr.lt (by have:=ha.2;omega);have hold:∀id,id<G.next->V3.get id=G.get id:=λid h=>(gr.lt O).trans (hold id h);have hm3:=gr.next;generalize hmq2:V2.next=m2 at hm2 hm3 hh2;simp only[hmq2]at hh1;clear hq gr hmq2;repeat' first|refine X ?_|exact yaF|refine Y ?_ ?_<;>intro _
 first|refine .call _ rfl rfl rfl (jgk x h3_1 _) ?_|refine .scall _ rfl rfl rfl (jgk x h3_1 _) ?_
 intro r V4 hq;obtain⟨x3,rfl,gr,hh3⟩:=NewL.openC hq;have hh0:=hh0.frame λa ha=>gr.lt (by have:=ha.2;omega);have hh1:=hh1.frame λa ha=>gr.lt (by have:=ha.2;omega);have hh2:=hh2.frame λa ha=>gr.lt (by have:=ha.2;omega);have hold:∀id,id<G.next->V4.get id=G.get id:=λid h=>(gr.lt O).trans (hold id h);have hm4:=gr.next;generalize hmq3:V3.next=m3 at hm3 hm4 hh3;simp only[hmq3]at hh2;clear hq gr hmq3;have hn4:G.next<=V4.next:=O;obtain⟨y1,y2,y3,_,_,_,rfl,_⟩:=wjo hh3;repeat' first|refine X ?_|exact yaF|refine Y ?_ ?_<;>intro _
 first|refine .call _ rfl rfl rfl (Lend.new (.own (HasV.c hh0).lend (.own (HasV.c hh1).lend (.own (HasV.c hh2).lend (.own (HasV.agg hh3).lend .nil)))) himpl) ?_|refine .scall _ rfl rfl rfl (Lend.new (.own (HasV.c hh0).lend (.own (HasV.c hh1).lend (.own (HasV.c hh2).lend (.own (HasV.agg hh3).lend .nil)))) himpl) ?_
 intro r τr hq;obtain⟨g,rfl,gr,hhr⟩:=jjf (.int _ _) (.int _ _) hq;have hh0:=hh0.frame λa ha=>gr.lt (by have:=ha.2;omega);have hh1:=hh1.frame λa ha=>gr.lt (by have:=ha.2;omega);have hh2:=hh2.frame λa ha=>gr.lt (by have:=ha.2;omega);have hh3:=hh3.frame λa ha=>gr.lt (by have:=ha.2;omega);have hold:∀id,id<G.next->τr.get id=G.get id:=λid h=>(gr.lt O).trans (hold id h);have hmr:=gr.next;generalize hmq:V4.next=m4 at hm4 hmr hhr;simp only[hmq]at hh3;clear hq gr hmq;repeat' first|refine X ?_|exact yaF|refine Y ?_ ?_<;>intro _
 first|refine Go.lcall rfl rfl rfl (zbd ws ws w1 w2) (.bool _) (.own (HasV.c hhr).lend (.same .nil)) ?_|refine Go.slcall rfl rfl rfl (zbd ws ws w1 w2) (.bool _) (.own (HasV.c hhr).lend (.same .nil)) ?_
 rw[beq_self_eq_true];repeat' first|(apply yA;exact rfl)|apply yB|apply yC|((first|apply yD|apply yE);(first|exact yF|assumption);iterate 6 exact rfl)|((first|apply yG|apply yH|apply yI);exact rfl;(first|exact yJ|exact yK rfl rfl|exact yL rfl|exact yM rfl|exact wet rfl rfl|exact rfl|exact aL rfl rfl rfl rfl rfl|exact aS rfl rfl rfl rfl rfl rfl rfl))|((first|apply yN|apply yO|apply yP);exact rfl)|((first|apply yQ|apply yR|apply yS);(iterate 3 exact rfl);exact t0)|exact yaF|(((first|apply yT|apply yU|apply yV|apply yW);exact rfl;(first|exact .d|exact .e|exact .n|((fail_if_success exact bqt);(fail_if_success exact bqf);exact .b)))<;>intro _)
 first|refine Go.lcall rfl rfl rfl (jge s s h0_1 h0_2) (.bool _) (.own (HasV.c hh0).lend (.same .nil)) ?_|refine Go.slcall rfl rfl rfl (jge s s h0_1 h0_2) (.bool _) (.own (HasV.c hh0).lend (.same .nil)) ?_
 rw[beq_self_eq_true];repeat' first|(apply yA;exact rfl)|apply yB|apply yC|((first|apply yD|apply yE);(first|exact yF|assumption);iterate 6 exact rfl)|((first|apply yG|apply yH|apply yI);exact rfl;(first|exact yJ|exact yK rfl rfl|exact yL rfl|exact yM rfl|exact wet rfl rfl|exact rfl|exact aL rfl rfl rfl rfl rfl|exact aS rfl rfl rfl rfl rfl rfl rfl))|((first|apply yN|apply yO|apply yP);exact rfl)|((first|apply yQ|apply yR|apply yS);(iterate 3 exact rfl);exact t1)|exact yaF|(((first|apply yT|apply yU|apply yV|apply yW);exact rfl;(first|exact .d|exact .e|exact .n|((fail_if_success exact bqt);(fail_if_success exact bqf);exact .b)))<;>intro _)
 first|refine Go.lcall rfl rfl rfl (wd7 l l h1_1 h1_2) (.bool _) (.own (HasV.c hh1).lend (.same .nil)) ?_|refine Go.slcall rfl rfl rfl (wd7 l l h1_1 h1_2) (.bool _) (.own (HasV.c hh1).lend (.same .nil)) ?_
 rw[beq_self_eq_true];repeat' first|(apply yA;exact rfl)|apply yB|apply yC|((first|apply yD|apply yE);(first|exact yF|assumption);iterate 6 exact rfl)|((first|apply yG|apply yH|apply yI);exact rfl;(first|exact yJ|exact yK rfl rfl|exact yL rfl|exact yM rfl|exact wet rfl rfl|exact rfl|exact aL rfl rfl rfl rfl rfl|exact aS rfl rfl rfl rfl rfl rfl rfl))|((first|apply yN|apply yO|apply yP);exact rfl)|((first|apply yQ|apply yR|apply yS);(iterate 3 exact rfl);exact t2)|exact yaF|(((first|apply yT|apply yU|apply yV|apply yW);exact rfl;(first|exact .d|exact .e|exact .n|((fail_if_success exact bqt);(fail_if_success exact bqf);exact .b)))<;>intro _)
 first|refine Go.lcall rfl rfl rfl (zbd db db h2_1 h2_2) (.bool _) (.own (HasV.c hh2).lend (.same .nil)) ?_|refine Go.slcall rfl rfl rfl (zbd db db h2_1 h2_2) (.bool _) (.own (HasV.c hh2).lend (.same .nil)) ?_
 rw[beq_self_eq_true];repeat' first|(apply yA;exact rfl)|apply yB|apply yC|((first|apply yD|apply yE);(first|exact yF|assumption);iterate 6 exact rfl)|((first|apply yG|apply yH|apply yI);exact rfl;(first|exact yJ|exact yK rfl rfl|exact yL rfl|exact yM rfl|exact wet rfl rfl|exact rfl|exact aL rfl rfl rfl rfl rfl|exact aS rfl rfl rfl rfl rfl rfl rfl))|((first|apply yN|apply yO|apply yP);exact rfl)|((first|apply yQ|apply yR|apply yS);(iterate 3 exact rfl);exact t3)|exact yaF|(((first|apply yT|apply yU|apply yV|apply yW);exact rfl;(first|exact .d|exact .e|exact .n|((fail_if_success exact bqt);(fail_if_success exact bqf);exact .b)))<;>intro _)
 first|refine Go.lcall rfl rfl rfl (jjb x x h3_1) (.bool _) (.own (HasV.agg hh3).lend (.same .nil)) ?_|refine Go.slcall rfl rfl rfl (jjb x x h3_1) (.bool _) (.own (HasV.agg hh3).lend (.same .nil)) ?_
 rw[beq_self_eq_true];repeat' first|refine X ?_|exact yaF|refine Y ?_ ?_<;>intro _
 refine .call _ rfl rfl rfl ((wie s 1 h0_1 h0_2 O O).at_ _ _ _ hh0) ?_;rintro r τm0 ⟨rfl,hnx,hfr,-⟩;have hh1:=hh1.frame (λa ha=>hfr a λh=>by have:=ha.1;have:=h.2;omega);have hh2:=hh2.frame (λa ha=>hfr a λh=>by have:=ha.1;have:=h.2;omega);have hh3:=hh3.frame (λa ha=>hfr a λh=>by have:=ha.1;have:=h.2;omega);have hhr:=hhr.frame (λa ha=>hfr a λh=>by have:=ha.1;have:=h.2;omega);have hold:∀id,id<G.next->τm0.get id=G.get id:=λid h=>(hfr id λh'=>by have:=h'.1;omega).trans (hold id h);obtain⟨k1,hk1⟩:∃z,1+cntL jav s=z:=⟨_,rfl⟩;rw[hk1];have hkb1:1<=k1/\k1<=8388616+8*1-8*l0:=O;clear hfr hh0 hk1 hnx;repeat' first|refine X ?_|exact yaF|refine Y ?_ ?_<;>intro _
 refine .call _ rfl rfl rfl ((wgm l k1 h1_1 h1_2 O O).at_ _ _ _ hh1) ?_;rintro r τm1 ⟨rfl,hnx,hfr,-⟩;have hh2:=hh2.frame (λa ha=>hfr a λh=>by have:=ha.1;have:=h.2;omega);have hh3:=hh3.frame (λa ha=>hfr a λh=>by have:=ha.1;have:=h.2;omega);have hhr:=hhr.frame (λa ha=>hfr a λh=>by have:=ha.1;have:=h.2;omega);have hold:∀id,id<G.next->τm1.get id=G.get id:=λid h=>(hfr id λh'=>by have:=h'.1;omega).trans (hold id h);obtain⟨k2,hk2⟩:∃z,k1+cntL zab l=z:=⟨_,rfl⟩;rw[hk2];have hkb2:1<=k2/\k2<=8388616+8*2-8*l1:=O;clear hfr hh1 hk2 hnx;repeat' first|refine X ?_|exact yaF|refine Y ?_ ?_<;>intro _
 refine .call _ rfl rfl rfl ((we1 db k2 h2_1 h2_2 O O).at_ _ _ _ hh2) ?_;rintro r τm2 ⟨rfl,hnx,hfr,-⟩;have hh3:=hh3.frame (λa ha=>hfr a λh=>by have:=ha.1;have:=h.2;omega);have hhr:=hhr.frame (λa ha=>hfr a λh=>by have:=ha.1;have:=h.2;omega);have hold:∀id,id<G.next->τm2.get id=G.get id:=λid h=>(hfr id λh'=>by have:=h'.1;omega).trans (hold id h);obtain⟨k3,hk3⟩:∃z,k2+cntL wo db=z:=⟨_,rfl⟩;rw[hk3];have hkb3:1<=k3/\k3<=8388616+8*3-8*l2:=O;clear hfr hh2 hk3 hnx;repeat' first|refine X ?_|exact yaF|refine Y ?_ ?_<;>intro _
 refine .call _ rfl rfl rfl ((wki x k3 h3_1 O O).at_ _ _ _ hh3) ?_;rintro r τm3 ⟨rfl,hnx,hfr⟩;have hhr:=hhr.frame (λa ha=>hfr a λh=>by have:=ha.1;have:=h.2;omega);have hold:∀id,id<G.next->τm3.get id=G.get id:=λid h=>(hfr id λh'=>by have:=h'.1;omega).trans (hold id h);obtain⟨k4,hk4⟩:∃z,k3+wcn x=z:=⟨_,rfl⟩;rw[hk4];have hkb4:1<=k4/\k4<=8388616+8*4-8*l3:=O;clear hfr hh3 hk4 hnx;repeat' first|refine X ?_|exact yaF|refine Y ?_ ?_<;>intro _
 first|refine Go.lcall rfl rfl rfl (zbd ws ws w1 w2) (.bool _) (.own (HasV.c hhr).lend (.same .nil)) ?_|refine Go.slcall rfl rfl rfl (zbd ws ws w1 w2) (.bool _) (.own (HasV.c hhr).lend (.same .nil)) ?_
 rw[beq_self_eq_true];repeat' first|(apply yA;exact rfl)|apply yB|apply yC|((first|apply yD|apply yE);(first|exact yF|assumption);iterate 6 exact rfl)|((first|apply yG|apply yH|apply yI);exact rfl;(first|exact yJ|exact yK rfl rfl|exact yL rfl|exact yM rfl|exact wet rfl rfl|exact rfl|exact aL rfl rfl rfl rfl rfl|exact aS rfl rfl rfl rfl rfl rfl rfl))|((first|apply yN|apply yO|apply yP);exact rfl)|exact yaF|(((first|apply yT|apply yU|apply yV|apply yW);exact rfl;(first|exact .d|exact .e|exact .n|((fail_if_success exact bqt);(fail_if_success exact bqf);exact .b)))<;>intro _)
 refine .call _ rfl rfl rfl ((we1 ws 1 w1 w2 O O).at_ _ _ _ hhr) ?_;rintro r τw ⟨rfl,hnx,hfr,hhr⟩;have hold:∀id,id<G.next->τw.get id=G.get id:=λid h=>(hfr id λh'=>by have:=h'.1;omega).trans (hold id h);have hhc:=wjn ws w1 w2 w3;generalize wz wbf wo ws 1=ms at hhr hhc;have w4:0<=1+cntL wo ws:=by have:=zjo ws;omega
 generalize 1+cntL wo ws=k9 at hhc w4⊢;clear hfr hnx;repeat' first|refine X ?_|exact yaF|refine Y ?_ ?_<;>intro _
 first|refine Go.lcall rfl rfl rfl (hhc) (.int _ _) (.own (HasV.c hhr).lend (.same .nil)) ?_|refine Go.slcall rfl rfl rfl (hhc) (.int _ _) (.own (HasV.c hhr).lend (.same .nil)) ?_
 repeat' first|refine X ?_|refine yaC (t0) ?_|refine yaC (t1) ?_|refine yaC (t2) ?_|refine yaC (t3) ?_|exact yaF|refine Y ?_ ?_<;>intro _
 first|refine .spcall rfl rfl rfl (NewV.pure himpl) ?_|refine .pcall rfl rfl rfl (NewV.pure himpl) ?_
 have hee:=zbd ws ws w1 w2;rw[beq_self_eq_true]at hee;repeat' first|(apply yA;exact rfl)|apply yB|apply yC|((first|apply yD|apply yE);(first|exact yF|assumption);iterate 6 exact rfl)|((first|apply yG|apply yH|apply yI);exact rfl;(first|exact yJ|exact yK rfl rfl|exact yL rfl|exact yM rfl|exact wet rfl rfl|exact rfl|exact aL rfl rfl rfl rfl rfl|exact aS rfl rfl rfl rfl rfl rfl rfl))|((first|apply yN|apply yO|apply yP);exact rfl)|((first|apply yQ|apply yR|apply yS);(iterate 3 exact rfl);exact hee)|exact yaF|(((first|apply yT|apply yU|apply yV|apply yW);exact rfl;(first|exact .d|exact .e|exact .n|((fail_if_success exact bqt);(fail_if_success exact bqf);exact .b)))<;>intro _)
 first|refine Go.lcall rfl rfl rfl (hhc) (.int _ _) (.own (HasV.c hhr).lend (.same .nil)) ?_|refine Go.slcall rfl rfl rfl (hhc) (.int _ _) (.own (HasV.c hhr).lend (.same .nil)) ?_
 repeat' first|refine X ?_|exact yaF|refine Y ?_ ?_<;>intro _
 exact .ret rfl ⟨hold,zjf⟩
end Go.Proofs.YtedaadaaibofaaaGreat.Am
namespace Go.Proofs.YtedaadaaibofaaaGreat.fnExactExecFired
open Go.ChangeShapes Go.WideShapes Go.ChangeAt Go.RowKit Go.Proofs.YtedaadaaibofaaaGreat.Am
open Go.ChangeMaps (open_string shut_string)
theorem own : ownKnob Tryz.prog.godebug = none := by kernel_rfl
theorem laidOut : laidOutB Tryz.prog = true := by kernel_rfl
set_option maxRecDepth 100000 in
theorem lifted (os : Os) (started : os.Started) (H : Type) (enc : TypeId × Value -> H) :
 ReturnsInHanded {} Tryz.checked os 3 .any (Rows.fnExactExecFiredSpec.pre6 enc Tryz.prog Tryz.f3 Rows.fnExactExecFiredRow.domain false) (Rows.fnExactExecFiredSpec.post enc Tryz.prog Tryz.f3 false true false false) := by
 refine returnsInHanded_of_change_sized (C := Tryz.checked) own started (by kernel_rfl) Tryz.func3
  (ChangeSpec.witness6 (enc := enc) (C := Tryz.checked) false ⟨#[], #[.slice none 0 0, .slice none 0 0, .slice none 0 0, .agg #[.int .i64 0, .string ByteArray.empty, .slice none 0 0, .slice none 0 0, .slice none 0 0, .int .i64 0]], []⟩ 8 (by kernel_rfl) (by kernel_rfl) (by kernel_rfl) (by kernel_rfl)) ?_
 intro W base args ds gs before hval0 hW hcnd hsz0 _
 have hval : ∀ (j : Nat) t v, Tryz.f3.params[j]? = some t -> args[j]? = some v -> Value.okWide Tryz.prog W .any base t v := hval0
 have hW' := hW
 obtain ⟨p, q, hA0, hV, rfl, hfz, hnd⟩ := hW
 have hA : DataW.TrodAll enc Tryz.prog W 0 (λ_ => true) true Tryz.f3.params.toList args.toList ds p := hA0
 rw [Tryz.params3] at hA hval
 have hsz : (DataW.weightsEach Tryz.prog (Tryz.f3.params.toList ++ Rows.fnExactExecFiredSpec.plain.varTypes Tryz.prog) (ds ++ gs)).all (· <= reachBytes) = true := hsz0
 rw [Tryz.params3] at hsz
 obtain ⟨v0, vs0, d0, ds0, p0, q0, hargs, rfl, rfl, h0, r0⟩ := trodAll_cons hA
 obtain ⟨v1, vs1, d1, ds1, p1, q1, rfl, rfl, rfl, h1, r1⟩ := trodAll_cons r0
 obtain ⟨v2, vs2, d2, ds2, p2, q2, rfl, rfl, rfl, h2, r2⟩ := trodAll_cons r1
 obtain ⟨v3, vs3, d3, ds3, p3, q3, rfl, rfl, rfl, h3, r3⟩ := trodAll_cons r2
 obtain ⟨rfl, rfl, rfl⟩ := trodAll_nil r3
 obtain rfl : args = #[v0, v1, v2, v3] := by cases args; simp_all
 obtain ⟨rfl, rfl⟩ := trodVars_none hV
 obtain ⟨a0, g0, e0⟩ := jp.c wle (wdm Tryz.underlying22 (hval 0 22 v0 rfl rfl)) h0 (λn hn => of_decide_eq_true (List.all_eq_true.1 hsz _ (DataW.weights_mem_each (j := 0) (t := 22) rfl rfl n hn)))
 have k0 := h0
 have lt0 : ∀ x ∈ p0, x.block < W.heap.size := by obtain ⟨m, hm⟩ := k0; exact DataW.trod_lt m _ _ _ hm
 obtain ⟨a1, g1, e1⟩ := jp.c zjp (wdm Tryz.underlying23 (hval 1 23 v1 rfl rfl)) h1 (λn hn => of_decide_eq_true (List.all_eq_true.1 hsz _ (DataW.weights_mem_each (j := 1) (t := 23) rfl rfl n hn)))
 have k1 := h1
 have lt1 : ∀ x ∈ p1, x.block < W.heap.size := by obtain ⟨m, hm⟩ := k1; exact DataW.trod_lt m _ _ _ hm
 obtain ⟨a2, g2, e2⟩ := jp.c jmi (wdm Tryz.underlying24 (hval 2 24 v2 rfl rfl)) h2 (λn hn => of_decide_eq_true (List.all_eq_true.1 hsz _ (DataW.weights_mem_each (j := 2) (t := 24) rfl rfl n hn)))
 have k2 := h2
 have lt2 : ∀ x ∈ p2, x.block < W.heap.size := by obtain ⟨m, hm⟩ := k2; exact DataW.trod_lt m _ _ _ hm
 obtain ⟨a3, g3, e3⟩ := wnc.agg Tryz.underlying29 (hval 3 29 v3 rfl rfl) h3 (λn hn => of_decide_eq_true (List.all_eq_true.1 hsz _ (DataW.weights_mem_each (j := 3) (t := 29) rfl rfl n hn)))
 have k3 := h3
 have lt3 : ∀ x ∈ p3, x.block < W.heap.size := by obtain ⟨m, hm⟩ := k3; exact DataW.trod_lt m _ _ _ hm
 clear hA0 hval0 hsz0 hsz
 refine ((ExecFired_sound a0 a1 a2 a3 (yaf g0.1 gb) g0.2 (yaf g1.1 gb) g1.2 (yaf g2.1 gb) g2.2 (g3)).calls (W := W) ⟨rfl, λi hi => ?_⟩).mono λe W' ⟨he, bel⟩ => ?_
 ·match i, hi with
  | 0, _ => exact e0
  | 1, _ => exact e1
  | 2, _ => exact e2
  | 3, _ => exact e3
 subst he
 exact ⟨_, rfl, _, _, _, [], _, [], hW', trodAll_mk1 (shut_bool Tryz.underlying4 _), (trodAll_cons_mk (Below.trod laidOut (by kernel_rfl) (of_decide_eq_true (by kernel_rfl)) k0 bel lt0) (trodAll_cons_mk (Below.trod laidOut (by kernel_rfl) (of_decide_eq_true (by kernel_rfl)) k1 bel lt1) (trodAll_cons_mk (Below.trod laidOut (by kernel_rfl) (of_decide_eq_true (by kernel_rfl)) k2 bel lt2) (trodAll_cons_mk (Below.trod laidOut (by kernel_rfl) (of_decide_eq_true (by kernel_rfl)) k3 bel lt3) trodAll_mk0)))), rfl, bel.frame _, λh => by cases h⟩
theorem spl {a b : Bool} (h : (a && b) = true) : a = true /\ b = true := by cases a <;> cases b <;> simp_all
theorem and2 {a b : Bool} (h : a = true) (k : b = true) : (a && b) = true := by rw [h, k]; rfl
theorem facts0 : (Rows.fnExactExecFiredRow.wf (OpenSpec.ofChange Rows.fnExactExecFiredSpec) && laidOutB Tryz.pinned.checked.prog && mapsRowed Tryz.pinned.checked.prog && Tryz.f3.params.all (Tryz.pinned.checked.prog.readableRec ·) && namedTie Tryz.pinned.checked.prog Rows.fnExactExecFiredRow.named Rows.fnExactExecFiredSpec.vars && (Rows.fnExactExecFiredRow.stops == []) && (Tryz.pinned.checked.prog.stops == []) && (Rows.fnExactExecFiredRow.knobs == []) && (Tryz.pinned.checked.prog.stopKnobs == [])) = true := by kernel_rfl
theorem facts1 : ((Rows.fnExactExecFiredRow.inPlace == Tryz.pinned.checked.prog.inPlace 3) && (Rows.fnExactExecFiredRow.unfollowed == Tryz.pinned.checked.prog.unfollowed 3) && (Rows.fnExactExecFiredRow.recurses == Tryz.pinned.checked.prog.recurses 3) && (Rows.fnExactExecFiredRow.named == Tryz.pinned.checked.prog.varsNamed 3)) = true := by kernel_rfl
theorem facts2 : ((Rows.fnExactExecFiredRow.maps == (Tryz.f3.params.toList ++ Rows.fnExactExecFiredSpec.plain.varTypes Tryz.pinned.checked.prog).any (Tryz.pinned.checked.prog.mapsRec ·)) && (Rows.fnExactExecFiredRow.ifaces == (Tryz.f3.params.toList ++ Rows.fnExactExecFiredSpec.plain.varTypes Tryz.pinned.checked.prog).any (Tryz.pinned.checked.prog.ifacesRec ·)) && (Rows.fnExactExecFiredRow.mapsOut == Tryz.pinned.checked.prog.mapsAmong Tryz.f3.resultTypes.toList) && (Rows.fnExactExecFiredRow.loops == (Tryz.f3.params.toList ++ Rows.fnExactExecFiredSpec.plain.varTypes Tryz.pinned.checked.prog).any (Tryz.pinned.checked.prog.loopsFrom ·)) && (Rows.fnExactExecFiredRow.wideKeys == (Tryz.f3.params.toList ++ Rows.fnExactExecFiredSpec.plain.varTypes Tryz.pinned.checked.prog ++ Tryz.f3.resultTypes.toList).any (Tryz.pinned.checked.prog.wideKeysFrom ·)) && Rows.fnExactExecFiredSpec.vars.all (Tryz.pinned.checked.prog.varReadable ·)) = true := by kernel_rfl
theorem facts3 : (Tryz.f3.resultTypes.all (λt => Tryz.pinned.checked.prog.readableRec t && decide (t < Tryz.pinned.checked.prog.types.size)) && (Rows.fnExactExecFiredRow.ifacesOut == Tryz.f3.resultTypes.toList.any (Tryz.pinned.checked.prog.ifacesRec ·)) && (Rows.fnExactExecFiredRow.loopsOut == Tryz.f3.resultTypes.toList.any (Tryz.pinned.checked.prog.loopsFrom ·)) && (Rows.fnExactExecFiredRow.plainKeys == Tryz.pinned.checked.prog.plainKeys) && Rows.fnExactExecFiredRow.shortTexts.isNone && (Tryz.pinned.checked.prog.make == some Rows.fnExactExecFiredRow.make) && (Rows.fnExactExecFiredRow.kinds == (if Rows.fnExactExecFiredRow.domain.isEmpty then [] else Tryz.f3.params.toList.map λt => match Tryz.pinned.checked.prog.underlying t with | some (.int k) => some k | _ => none)) && (Rows.fnExactExecFiredRow.pinned == Rows.fnExactExecFiredRow.pinnedBy) && (Rows.fnExactExecFiredRow.veiled == (Tryz.f3.params.toList ++ Rows.fnExactExecFiredSpec.plain.varTypes Tryz.pinned.checked.prog ++ Tryz.f3.resultTypes.toList).any (Tryz.pinned.checked.prog.veiledRec ·)) && Rows.fnExactExecFiredRow.veiledFits Tryz.pinned.checked.prog Tryz.f3.params.toList (Tryz.f3.params.toList ++ Rows.fnExactExecFiredSpec.plain.varTypes Tryz.pinned.checked.prog ++ Tryz.f3.resultTypes.toList)) = true := by kernel_rfl
theorem facts4 : (Tryz.pinned.checked.prog.stopsHeard && Tryz.pinned.checked.prog.mayEnter && (Rows.fnExactExecFiredRow.lifted == Tryz.pinned.checked.prog.liftsFinal)) = true := by kernel_rfl
set_option maxRecDepth 100000 in
theorem closed : joinedFacts Tryz.pinned.checked.prog 3 Tryz.f3 Rows.fnExactExecFiredSpec Rows.fnExactExecFiredRow = true := by
 have g := facts0
 obtain ⟨g, p8⟩ := spl g
 obtain ⟨g, p7⟩ := spl g
 obtain ⟨g, p6⟩ := spl g
 obtain ⟨g, p5⟩ := spl g
 obtain ⟨g, p4⟩ := spl g
 obtain ⟨g, p3⟩ := spl g
 obtain ⟨g, p2⟩ := spl g
 obtain ⟨g, p1⟩ := spl g
 have p0 := g
 have g := facts1
 obtain ⟨g, p12⟩ := spl g
 obtain ⟨g, p11⟩ := spl g
 obtain ⟨g, p10⟩ := spl g
 have p9 := g
 have g := facts2
 obtain ⟨g, p18⟩ := spl g
 obtain ⟨g, p17⟩ := spl g
 obtain ⟨g, p16⟩ := spl g
 obtain ⟨g, p15⟩ := spl g
 obtain ⟨g, p14⟩ := spl g
 have p13 := g
 have g := facts3
 obtain ⟨g, p31⟩ := spl g
 obtain ⟨g, p30⟩ := spl g
 obtain ⟨g, p29⟩ := spl g
 obtain ⟨g, p28⟩ := spl g
 obtain ⟨g, p27⟩ := spl g
 obtain ⟨g, p23⟩ := spl g
 obtain ⟨g, p22⟩ := spl g
 obtain ⟨g, p21⟩ := spl g
 obtain ⟨g, p20⟩ := spl g
 have p19 := g
 have g := facts4
 obtain ⟨g, p26⟩ := spl g
 obtain ⟨g, p25⟩ := spl g
 have p24 := g
 exact (and2 (and2 (and2 (and2 (and2 (and2 (and2 (and2 (and2 (and2 (and2 (and2 (and2 (and2 (and2 (and2 (and2 (and2 (and2 (and2 (and2 (and2 (and2 (and2 (and2 (and2 (and2 (and2 (and2 (and2 (and2 p0 p1) p2) p3) p4) p5) p6) p7) p8) p9) p10) p11) p12) p13) p14) p15) p16) p17) p18) p19) p20) p21) p22) p23) p24) p25) p26) p27) p28) p29) p30) p31)
theorem over : Rows.fnExactExecFiredRow.holds Tryz.pinned (OpenSpec.ofChange Rows.fnExactExecFiredSpec) :=
 OpenClaim.holds_of_wide 3 Tryz.f3 rfl rfl rfl rfl rfl rfl rfl ⟨rfl, rfl, rfl, rfl, rfl⟩ rfl rfl rfl rfl rfl (by kernel_rfl) Tryz.func3 closed
  (of_decide_eq_true (by kernel_rfl)) (by unfold Func.isWrapper; first | (rw [if_pos (by decide +kernel)]; kernel_rfl) | (rw [if_neg (by decide +kernel)]; exact ⟨rfl, rfl⟩))
  (λos started H enc _ => lifted os started H enc)
theorem proved : Rows.FnExactExecFiredSaid := over
end Go.Proofs.YtedaadaaibofaaaGreat.fnExactExecFired
namespace Go.Proofs.YtedaadaaibofaaaGreat
theorem fnExactExecFired_holds : Rows.FnExactExecFiredSaid := fnExactExecFired.proved
#print axioms fnExactExecFired_holds
end Go.Proofs.YtedaadaaibofaaaGreat
