/- Joined texts: Y2, K3, Y3, Y4, S5, S6, S7, S9, K4, D1, M0, M1, M3, M2, N0, D2, G1, G2, G3, G4, G5, G6, J1, F10, J2, J3, H0, Y5, Y6, Y7, Y8, W0, A1, A3, A9, A2, A4, A10, A11, A5, A12. -/
import Derived.Test.YtedaadaaibofaaaGreatZ1
import Derived.Test.YtedaadaaibofaaaGreatZ2
import Derived.Test.YtedaadaaibofaaaGreatZ3
set_option linter.unusedVariables false
set_option linter.unusedSimpArgs false
namespace Go.Proofs.YtedaadaaibofaaaGreat.Am
variable {G:jb}{v q:Nat}{code:List UInt8}{l:List (Nat×List (List Ce))}
theorem jf2{id:Nat}(hq:q<=code.length)(w:Val)(hw:w.s.length<=12):FinR G id v code AnyV (.agg (encV w)) (E (Rd.go G id v code q) l):=.c hq ⟨w,hw,rfl⟩ (wlk w)
theorem jbi{n:Int}(h:1<n){r:AV}(hr:wjh n r):∃k:Nat,(k:Int)<n/\r=.c (.int .i64 (k:Int)):=by
 obtain⟨k,h0,h1,rfl⟩:=hr;exact⟨k.toNat,O,by rw[Int.toNat_of_nonneg h0]⟩
theorem wc8:jal Tryz.prog 304 [] AnyV:=by
 refine jal.run mixed jdo gz λG id v code p hr hp hc hS=>?_;clear hS;repeat' first|refine X ?_|exact yaF|refine yaS ?_ ?_<;>intro _
 refine Go.drawn hr hp rfl rfl rfl (jm 12 gb gb) ?_;intro r q hq hz;obtain⟨k,hk,rfl⟩:=jbi gb hz;have hcase:k=0\/k=1\/k=2\/k=3\/k=4\/5<=k:=O;rcases hcase with rfl|rfl|rfl|rfl|rfl|h5
 ·repeat' first|refine X ?_|exact yaF|refine yaS ?_ ?_<;>intro _
  exact .ret (zay rfl rfl rfl (yac _) rfl) (jf2 hq zf gb)
 ·repeat' first|refine X ?_|exact yaF|refine yaS ?_ ?_<;>intro _
  exact .ret (zay rfl rfl rfl (yac _) rfl) (jf2 hq zf gb)
 all_goals repeat' first|refine X ?_|exact yaF|refine yaS ?_ ?_<;>intro _
 ·refine Go.drawn hr hq rfl rfl rfl (jm 6 gb gb) ?_;intro r q2 hq2 hz;obtain⟨m,hm,rfl⟩:=jbi gb hz;have hm6:m=0\/m=1\/m=2\/m=3\/m=4\/m=5:=O;rcases hm6 with rfl|rfl|rfl|rfl|rfl|rfl;all_goals repeat' first|refine X ?_|((first|apply yQ|apply yR|apply yS);(iterate 3 exact rfl);exact wdq _)|exact yaF|refine yaS ?_ ?_<;>intro _
  all_goals exact .ret (zay rfl rfl rfl (yac _) rfl) (jf2 hq2 ⟨2,0,_⟩ gb)
 ·refine Go.drawn hr hq rfl rfl rfl (jm 6 gb gb) ?_;intro r q2 hq2 hz;obtain⟨m,hm,rfl⟩:=jbi gb hz;have hm6:m=0\/m=1\/m=2\/m=3\/m=4\/m=5:=O;rcases hm6 with rfl|rfl|rfl|rfl|rfl|rfl;all_goals repeat' first|refine X ?_|((first|apply yQ|apply yR|apply yS);(iterate 3 exact rfl);exact wdq _)|exact yaF|refine yaS ?_ ?_<;>intro _
  all_goals exact .ret (zay rfl rfl rfl (yac _) rfl) (jf2 hq2 ⟨2,0,_⟩ gb)
 ·refine Go.drawn hr hq rfl rfl rfl (jm 4 gb gb) ?_;intro r q2 hq2 hz;obtain⟨m,hm,rfl⟩:=jbi gb hz;have hm4:m=0\/m=1\/m=2\/m=3:=O;rcases hm4 with rfl|rfl|rfl|rfl;all_goals repeat' first|refine X ?_|((first|apply yQ|apply yR|apply yS);(iterate 3 exact rfl);exact jak _)|exact yaF|refine yaS ?_ ?_<;>intro _
  all_goals exact .ret (zay rfl rfl rfl (yac _) rfl) (jf2 hq2 (vInt _) gb)
 ·refine Go.drawn hr hq rfl rfl rfl (jm 5 gb gb) ?_;intro r q2 hq2 hz;obtain⟨m,hm,rfl⟩:=jbi gb hz;repeat' first|refine X ?_|((first|apply yQ|apply yR|apply yS);(iterate 3 exact rfl);exact jak _)|exact yaF|refine yaS ?_ ?_<;>intro _
  exact .ret (zay rfl rfl rfl (Nat.zero_le _) rfl) (jf2 hq2 (vInt _) (by simp[vInt]))
def OwnT(G:jb)(id v:Nat)(code:List UInt8)(N:Nat)(r:AV)(V:jb):Prop:=∃(q:Nat) (ts:List Tok) (u:Nat) (junk:List (List Ce)) (l:List (Nat×List (List Ce))),q<=code.length/\ts.length<=N/\(∀t∈ts,bTok 12 t)/\Jk 5 junk/\r=.c (vec (G.next+0) u (ts.map zi) junk)/\V=E (Rd.go G id v code q) ((u,ts.map zi++junk)::l)
theorem jb3{l:List Tok}:∀e∈l.map zi,e.length=5:=λe he=>by
 obtain⟨a,_,rfl⟩:=List.mem_map.1 he
 rfl
variable {ys junk:List (List Ce)}
theorem jk3{k u:Nat}(hl:l[k]?=some (u,ys++junk)):(E G l).els (vec (G.next+k) u ys junk)=some ys:=by
 simp only[vec,jb.els,jck hl,List.length_append,Nat.zero_add,Nat.le_add_right,and_self,if_true,List.drop_zero];rw[List.take_left' rfl]
theorem zik(n:Int)(hn:0<n)(hn2:n<=16):∀(d:Nat),d<=2->∀(G:jb) (id v:Nat) (code:List UInt8) (p:Nat),Rd G id v code p->Ok Tryz.prog 238 [.c (.ptr id v 0 0),.c (.int .i64 n),.c (.int .i64 (d:Int))] G (OwnT G id v code (2^(d+1)-1))
 |d,hd,G,id,v,code,p,hr=>by
  have ih:∀e,d=e+1->∀(G:jb) (p:Nat),Rd G id v code p->Ok Tryz.prog 238 [.c (.ptr id v 0 0),.c (.int .i64 n),.c (.int .i64 (e:Int))] G (OwnT G id v code (2^(e+1)-1)):=λe he G p hr=>zik n hn hn2 e O G id v code p hr;refine Ok.run mixed jdd gz λhS hA=>?_;clear hS hA;have hp:=hr.2.2.1;have hpow:1<=2^(d+1)-1:=by
   have:d=0\/d=1\/d=2:=O;rcases this with rfl|rfl|rfl<;>decide
  rw[show E G []=E (Rd.go G id v code p) [] by rw[hr.same]];have hd0:d=0\/∃e,d=e+1:=by cases d with|zero=>exact .inl rfl|succ e=>exact .inr ⟨e,rfl⟩
  rcases hd0 with rfl|⟨e,rfl⟩
  ·repeat' first|refine X ?_|exact yaF|refine yaS ?_ ?_<;>intro _
   refine Go.drawn hr hp rfl rfl rfl (z3 3 gb gb) ?_;rintro _ q hq ⟨b,rfl⟩
   cases b
   ·repeat' first|refine X ?_|exact yaF|refine yaS ?_ ?_<;>intro _
    refine Go.drawn hr hq rfl rfl rfl (jm n O O) ?_;rintro _ q2 hq2 ⟨k,hk0,hk1,rfl⟩;repeat' first|refine X ?_|((first|apply yQ|apply yR|apply yS);(iterate 3 exact rfl);exact zcz _)|exact yaF|refine yaS ?_ ?_<;>intro _
    exact .ret rfl ⟨q2,[tCol k],0,[],[],hq2,hpow,λt ht=>by rw[List.mem_singleton.1 ht];exact yac _,Jk.nil,rfl,rfl⟩
   ·repeat' first|refine X ?_|exact yaF|refine yaS ?_ ?_<;>intro _
    refine Go.drawn hr hq rfl rfl rfl wc8 ?_;rintro _ q2 hq2 ⟨w,hw,rfl⟩;repeat' first|refine X ?_|((first|apply yQ|apply yR|apply yS);(iterate 3 exact rfl);exact zaa _)|exact yaF|refine yaS ?_ ?_<;>intro _
    exact .ret rfl ⟨q2,[zaq w],0,[],[],hq2,hpow,λt ht=>by rw[List.mem_singleton.1 ht];exact hw,Jk.nil,rfl,rfl⟩
  ·have hde:¬((e+1:Nat):Int)=0:=O;repeat' first|refine X ?_|exact yaF|refine yaS ?_ ?_<;>intro _
   refine Go.drawn hr hp rfl rfl rfl (z3 4 gb gb) ?_;rintro _ q0 hq0 ⟨b0,rfl⟩
   cases b0
   ·repeat' first|refine X ?_|exact yaF|refine yaS ?_ ?_<;>intro _
    refine Go.drawn hr hq0 rfl rfl rfl (jm 8 gb gb) ?_;intro r q1 hq1 hz;obtain⟨k,hk,rfl⟩:=jbi gb hz;have e0:IntKind.i64.wrap (((e+1:Nat):Int)-1)=(e:Int):=by rw[zk O O];omega
    have e1:IntKind.i64.wrap (3+(k:Int))=3+k:=zk O O;repeat' first|refine X ?_|exact yaF|refine yaS ?_ ?_<;>intro _
    rw[e0,e1];have c1:=ih e rfl (E (Rd.go G id v code q1) []) q1 ((hr.at_ hq1).E []);refine .call _ rfl rfl rfl c1 ?_;rintro r V ⟨q2,ts,u,junk,l,hq2,hts,hb,hj,rfl,rfl⟩;rw[Rd.go_E (show id<(Rd.go G id v code q1).next from hr.2.1),Rd.go_go,E_E,ybl];have hpe:2^(e+1+1)-1=2*(2^(e+1)-1)+1:=by
     have:e=0\/e=1:=O;rcases this with rfl|rfl<;>decide
    have hP:2^(e+1)-1<=3:=by
     have:e=0\/e=1:=O;rcases this with rfl|rfl<;>decide
    by_cases h7:k=4\/k=5
    ·have last:∀z:Int,bTok 12 ⟨z,0,zf⟩:=λz=>yac _;rcases h7 with rfl|rfl
     ·repeat' first|refine X ?_|exact yaF|refine yaS ?_ ?_<;>intro _
      refine Go.app1 (k:=0) (ys:=ts.map zi) (junk:=junk) (z:=zi ⟨7,0,zf⟩) rfl rfl rfl rfl rfl jb3 hj rfl (by rw[yae];omega) λu' junk' hj'=>?_;repeat' first|refine X ?_|exact yaF|refine yaS ?_ ?_<;>intro _
      refine .ret rfl ⟨q2,ts++[⟨7,0,zf⟩],u',junk',l,hq2,by rw[yaqq,ybf];omega,λt ht=>?_,hj',by rw[yak];rfl,by rw[yak];rfl⟩;rcases List.mem_append.1 ht with ht|ht
      ·exact hb t ht
      ·rw[List.mem_singleton.1 ht];exact last _
     ·repeat' first|refine X ?_|exact yaF|refine yaS ?_ ?_<;>intro _
      refine Go.app1 (k:=0) (ys:=ts.map zi) (junk:=junk) (z:=zi ⟨8,0,zf⟩) rfl rfl rfl rfl rfl jb3 hj rfl (by rw[yae];omega) λu' junk' hj'=>?_;repeat' first|refine X ?_|exact yaF|refine yaS ?_ ?_<;>intro _
      refine .ret rfl ⟨q2,ts++[⟨8,0,zf⟩],u',junk',l,hq2,by rw[yaqq,ybf];omega,λt ht=>?_,hj',by rw[yak];rfl,by rw[yak];rfl⟩;rcases List.mem_append.1 ht with ht|ht
      ·exact hb t ht
      ·rw[List.mem_singleton.1 ht];exact last _
    ·have hk7:¬(3+(k:Int))=7:=O;have hk8:¬(3+(k:Int))=8:=O;repeat' first|refine X ?_|exact yaF|refine yaS ?_ ?_<;>intro _
     rw[e0];have c2:=ih e rfl (E (Rd.go G id v code q2) ((u,ts.map zi++junk)::l)) q2 ((hr.at_ hq2).E _);refine .call _ rfl rfl rfl c2 ?_;rintro r V ⟨q3,ts2,u2,junk2,l2,hq3,hts2,hb2,hj2,rfl,rfl⟩;rw[Rd.go_E (show id<(Rd.go G id v code q2).next from hr.2.1),Rd.go_go,E_E];have hL:(((u,ts.map zi++junk)::l++(u2,ts2.map zi++junk2)::l2):List (Nat×List (List Ce)))[l.length+1]?=some (u2,ts2.map zi++junk2):=by
      rw[ybq gx];simp
     have hid:(E (Rd.go G id v code q2) ((u,ts.map zi++junk)::l)).next+0=(Rd.go G id v code q3).next+(l.length+1):=rfl;rw[hid];repeat' first|refine X ?_|exact yaF|refine yaS ?_ ?_<;>intro _
     refine Go.app (k:=0) (ys:=ts.map zi) (junk:=junk) (zs:=ts2.map zi) rfl rfl rfl (jk3 hL) rfl jb3 hj jb3 (by rw[yae,yae];omega) λu3 junk3 hj3=>?_;rw[<-yak];have hts3:(ts++ts2).length<=2*(2^(e+1)-1):=by rw[yaqq];omega
     have hb3:∀t∈ts++ts2,bTok 12 t:=λt ht=>by
      rcases List.mem_append.1 ht with ht|ht
      ·exact hb t ht
      ·exact hb2 t ht
     generalize ts++ts2=ts3 at hts3 hb3;repeat' first|refine X ?_|exact yaF|refine yaS ?_ ?_<;>intro _
     refine Go.app1 (k:=0) (ys:=ts3.map zi) (junk:=junk3) (z:=zi ⟨3+(k:Int),0,zf⟩) rfl rfl rfl rfl rfl jb3 hj3 rfl (by rw[yae];omega) λu' junk' hj'=>?_;repeat' first|refine X ?_|exact yaF|refine yaS ?_ ?_<;>intro _
     refine .ret rfl ⟨q3,ts3++[⟨3+(k:Int),0,zf⟩],u',junk',_,hq3,by rw[yaqq,ybf];omega,λt ht=>?_,hj',by rw[yak];rfl,by rw[yak];rfl⟩;rcases List.mem_append.1 ht with ht|ht
     ·exact hb3 t ht
     ·rw[List.mem_singleton.1 ht];exact yac _
   ·repeat' first|refine X ?_|exact yaF|refine yaS ?_ ?_<;>intro _
    refine Go.drawn hr hq0 rfl rfl rfl (z3 3 gb gb) ?_;rintro _ q hq ⟨b,rfl⟩
    cases b
    ·repeat' first|refine X ?_|exact yaF|refine yaS ?_ ?_<;>intro _
     refine Go.drawn hr hq rfl rfl rfl (jm n O O) ?_;rintro _ q2 hq2 ⟨k,hk0,hk1,rfl⟩;repeat' first|refine X ?_|((first|apply yQ|apply yR|apply yS);(iterate 3 exact rfl);exact zcz _)|exact yaF|refine yaS ?_ ?_<;>intro _
     exact .ret rfl ⟨q2,[tCol k],0,[],[],hq2,hpow,λt ht=>by rw[List.mem_singleton.1 ht];exact yac _,Jk.nil,rfl,rfl⟩
    ·repeat' first|refine X ?_|exact yaF|refine yaS ?_ ?_<;>intro _
     refine Go.drawn hr hq rfl rfl rfl wc8 ?_;rintro _ q2 hq2 ⟨w,hw,rfl⟩;repeat' first|refine X ?_|((first|apply yQ|apply yR|apply yS);(iterate 3 exact rfl);exact zaa _)|exact yaF|refine yaS ?_ ?_<;>intro _
     exact .ret rfl ⟨q2,[zaq w],0,[],[],hq2,hpow,λt ht=>by rw[List.mem_singleton.1 ht];exact hw,Jk.nil,rfl,rfl⟩
structure SetS where
 col:Int
 expr:List Tok
 deriving DecidableEq
def ju(a:SetS):List Ce:=[.int .i64 a.col,.fz (a.expr.map zi)]
def wlf(N:Nat)(a:SetS):Prop:=(a.expr.length<=N/\∀x∈a.expr,bTok N x)
structure RowD where
 id:Int
 vals:List Val
 deriving DecidableEq
def jc(a:RowD):List Ce:=[.int .i64 a.id,.fz (a.vals.map encV)]
def zlg(N:Nat)(a:RowD):Prop:=(a.vals.length<=N/\∀x∈a.vals,bV N x)
structure Stmt where
 kind:Int
 table:List UInt8
 rows:List RowD
 wher:List Tok
 sets:List SetS
 policy:Int
 deriving DecidableEq
def zg(a:Stmt):List Ce:=[.int .i64 a.kind,.str a.table,.fz (a.rows.map jc),.fz (a.wher.map zi),.fz (a.sets.map ju),.int .i64 a.policy]
def zfb(N:Nat)(a:Stmt):Prop:=a.table.length<=N/\(a.rows.length<=N/\∀x∈a.rows,zlg N x)/\(a.wher.length<=N/\∀x∈a.wher,bTok N x)/\(a.sets.length<=N/\∀x∈a.sets,wlf N x)
theorem Rd.old{G:jb}{id v:Nat}{code:List UInt8}{p q:Nat}(hr:Rd G id v code p)(hS:OldS G):OldS (Rd.go G id v code q):=by
 intro a y hy;by_cases e:a=id
 ·subst e;rw[show(Rd.go G a v code q).get a=some (v,rdB code q)from if_pos rfl]at hy;injection hy with hy;subst hy;refine⟨hr.2.1,λi j hi hj=>?_⟩;have hold:=(hS a _ hr.1).2;have hi0:i=0:=by simp[rdB]at hi;omega
  subst hi0;have hj2:j=0\/j=1:=by simp[rdB]at hj;omega
  rcases hj2 with rfl|rfl
  ·exact hold 0 0 (by simp[rdB]) (by simp[rdB])
  ·exact .int _ _
 ·rw[show(Rd.go G id v code q).get a=G.get a from if_neg e]at hy;exact hS a y hy
def Toks(N:Nat)(r:AV):Prop:=∃ts:List Tok,ts.length<=N/\(∀t∈ts,bTok 12 t)/\r=.c (.fz (ts.map zi))
theorem wb3{l:List Tok}:∀e∈l.map zi,∀x∈e,Flat x:=λe he x hx=>by
 obtain⟨a,_,rfl⟩:=List.mem_map.1 he;exact jh0 a x hx
variable {n:Nat}
theorem wkc{l:List Tok}:∀y∈(AV.c (.fz (l.map zi))).all,Old n y:=wgm wb3
theorem wk3(n:Int)(hn:0<n)(hn2:n<=16)(d:Nat)(hd:d<=2):jal Tryz.prog 238 [.c (.int .i64 n),.c (.int .i64 (d:Int))] (Toks 7):=
 ⟨λG id v code p hr=>jal.ends hr ((zik n hn hn2 d hd G id v code p hr).mono (by
  rintro r V ⟨q,ts,u,junk,l,hq,hts,hb,hj,rfl,rfl⟩;have h7:2^(d+1)-1<=7:=by
   have:d=0\/d=1\/d=2:=O;rcases this with rfl|rfl|rfl<;>decide
  exact .f hq ⟨ts,O,hb,rfl⟩ (wbt (n:=0) (k:=0) rfl wb3 (yac _) (yaf _))))⟩
theorem jhe{id:Nat}(hq:q<=code.length)(ts:List Tok)(h7:ts.length<=7)(hb:∀t∈ts,bTok 12 t){x:Ce}(hx:x=.fz (ts.map zi)):FinR G id v code (Toks 7) (.c x) (E (Rd.go G id v code q) l):=by
 subst hx;exact .c hq ⟨ts,h7,hb,rfl⟩ wkc
theorem jh4(n:Int)(hn:0<n)(hn2:n<=16):jal Tryz.prog 141 [.c (.int .i64 n)] (Toks 7):=by
 refine jal.run mixed wdb gz λG id v code p hr hp hc hS=>?_;clear hS;repeat' first|refine X ?_|exact yaF|refine yaS ?_ ?_<;>intro _
 refine Go.drawn hr hp rfl rfl rfl (jm n O O) ?_;rintro _ q hq ⟨c,hc0,hc1,rfl⟩;repeat' first|refine X ?_|exact yaF|refine yaS ?_ ?_<;>intro _
 refine Go.drawn hr hq rfl rfl rfl (jm 4 gb gb) ?_;rintro _ q1 hq1 ⟨k,hk0,hk1,rfl⟩;repeat' first|refine X ?_|((first|apply yQ|apply yR|apply yS);(iterate 3 exact rfl);exact jak _)|((first|apply yQ|apply yR|apply yS);(iterate 3 exact rfl);exact zaa _)|exact yaF|refine yaS ?_ ?_<;>intro _
 refine Go.drawn hr hq1 rfl rfl rfl (jm 5 gb gb) ?_;intro r q2 hq2 hz;obtain⟨m,hm,rfl⟩:=jbi gb hz;have hm5:m=0\/m=1\/m=2\/m=3\/m=4:=O;rcases hm5 with rfl|rfl|rfl|rfl|rfl;all_goals repeat' first|refine X ?_|((first|apply yQ|apply yR|apply yS);(iterate 3 exact rfl);exact jak _)|((first|apply yQ|apply yR|apply yS);(iterate 3 exact rfl);exact zaa _)|((first|apply yQ|apply yR|apply yS);(iterate 3 exact rfl);exact zcz _)|exact yaF|refine yaS ?_ ?_<;>intro _
 ·exact .ret rfl (jhe hq2 [zaq (vInt 1)] gb (λt ht=>by rw[List.mem_singleton.1 ht];exact yac _) rfl)
 ·exact .ret rfl (jhe hq2 [tCol c,zaq (vInt k),⟨3,0,zf⟩] gx (λt ht=>by
   simp only[List.mem_cons,List.not_mem_nil,or_false]at ht;rcases ht with rfl|rfl|rfl<;>exact yac _) rfl)
 ·exact .ret rfl (jhe hq2 [tCol c,⟨8,0,zf⟩,⟨7,0,zf⟩] gx (λt ht=>by
   simp only[List.mem_cons,List.not_mem_nil,or_false]at ht;rcases ht with rfl|rfl|rfl<;>exact yac _) rfl)
 ·refine Go.drawn hr hq2 rfl rfl rfl (wk3 n hn hn2 2 gb) ?_;rintro _ q3 hq3 ⟨ts,h7,hb,rfl⟩;repeat' first|refine X ?_|exact yaF|refine yaS ?_ ?_<;>intro _
  exact .ret rfl (jhe hq3 ts h7 hb rfl)
 ·exact .ret rfl (jhe hq2 [zaq (vInt k),tCol c,⟨4,0,zf⟩] gx (λt ht=>by
   simp only[List.mem_cons,List.not_mem_nil,or_false]at ht;rcases ht with rfl|rfl|rfl<;>exact yac _) rfl)
def jll(G:jb)(id v:Nat)(code:List UInt8)(N:Nat)(r:AV)(V:jb):Prop:=∃(q:Nat) (vs:List Val) (u:Nat) (junk:List (List Ce)),q<=code.length/\vs.length=N/\(∀w∈vs,bV 12 w)/\Jk 3 junk/\r=.c (vec (G.next+0) u (vs.map encV) junk)/\V=E (Rd.go G id v code q) [(u,vs.map encV++junk)]
theorem jji(t:wc)(hN:t.cols.length<=60)(G:jb)(id v:Nat)(code:List UInt8)(p:Nat)(hr:Rd G id v code p):Ok Tryz.prog 231 [.c (.ptr id v 0 0),.agg (ja t)] G (jll G id v code t.cols.length):=by
 refine Ok.run mixed wdm gz λhS hA=>?_;have hp:=hr.2.2.1;have hT:∀n,G.next<=n->∀y∈(AV.c (.fp (ja t))).all,Old n y:=λn hn y hy=>by
  simp only[AV.all,List.mem_singleton]at hy;subst hy;exact .fp _ λj hj=>(hA _ gx _ (yaa (l:=(AV.agg (ja t)).all) (n:=j) hj)).mono hn
 clear hA;rw[show E G []=E (Rd.go G id v code p) [] by rw[hr.same]];repeat' first|refine X ?_|exact yaF|refine yaS ?_ ?_<;>intro _
 refine Go.keep [0,3,5,6] (Go.loops (I:=λm fr V=>∃(i:Nat) (k:Int) (q u:Nat) (vs:List Val) (junk:List (List Ce)),m=t.cols.length-i/\i<=t.cols.length/\k=i/\q<=code.length/\Jk 3 junk/\(vs.length=i/\∀w∈vs,bV 12 w)/\
  fr=[(0,.c (.ptr id v 0 0)),(3,.c (.fp (ja t))),(5,.c (vec (G.next+0) u (vs.map encV) junk)),(6,.c (.int .i64 k))]/\V=E (Rd.go G id v code q) [(u,vs.map encV++junk)]) ?_ _ _ _ ⟨0,_,p,0,[],[],rfl,Nat.zero_le _,rfl,hp,Jk.nil,⟨rfl,λw hw=>by simp at hw⟩,rfl,rfl⟩)
 rintro m fr V ⟨i,k,q,u,vs,junk,rfl,hi,hk,hq,hj,⟨hl,hb⟩,rfl,rfl⟩ hrec;by_cases hlt:i<t.cols.length
 ·have fin:=λ(w:Val) (q u':Nat) (junk':List (List Ce)) (hw:bV 12 w) (hq:q<=code.length) (hj':Jk 3 junk') fr' G' hfr hσ=>hrec _ fr' G' O ⟨i+1,IntKind.i64.wrap (k+1),q,u',vs++[w],junk',rfl,hlt,wb hk O,hq,hj',⟨by rw[yaqq,ybf,hl],λx hx=>by
   rcases List.mem_append.1 hx with hx|hx
   ·exact hb x hx
   ·rw[List.mem_singleton.1 hx];exact hw⟩,hfr,hσ⟩
  clear hrec;have hbd:((vs.map encV).length+1)*32<=140737488355328:=by rw[yae];omega
  have keepF:∀(n u':Nat) (junk':List (List Ce)) {w:Val},Jk 3 junk'->∀b∈[(u',vs.map encV++[encV w]++junk')],∀e∈b.2,∀x∈e,Old n x:=λn u' junk' w hj' b hb2 e he x hx=>by
   rw[List.mem_singleton.1 hb2]at he;rcases List.mem_append.1 he with he|he
   ·rcases List.mem_append.1 he with he|he
    ·exact(jc5 e he x hx).old _
    ·rw[List.mem_singleton.1 he]at hx;exact(je9 w x hx).old _
   ·exact((hj' e he).2 x hx).old _
  repeat' first|refine X ?_|exact yaF|refine yaS ?_ ?_<;>intro _
  refine Go.drawn hr hq rfl rfl rfl (jm 5 gb gb) ?_;rintro _ q1 hq1 ⟨a,ha0,ha1,rfl⟩;repeat' first|refine yaN ?_|((first|apply yG|apply yH|apply yI);exact rfl;(first|exact yax jf hk hlt))|((first|apply yQ|apply yR|apply yS);(iterate 3 exact rfl);exact jak _)|exact yaF|refine yaS ?_ ?_<;>intro _
  -- paths
  ·refine Go.drawn hr hq1 rfl rfl rfl (jm 3 gb gb) ?_;intro r q2 hq2 hz;obtain⟨m,hm,rfl⟩:=jbi gb hz;have hm3:m=0\/m=1\/m=2:=O;rcases hm3 with rfl|rfl|rfl
   ·repeat' first|refine X ?_|((first|apply yQ|apply yR|apply yS);(iterate 3 exact rfl);exact wdq _)|exact yaF|refine yaS ?_ ?_<;>intro _
    refine Go.drawn hr hq2 rfl rfl rfl (z3 8 gb gb) ?_;rintro _ q4 hq4 ⟨b5,rfl⟩
    cases b5
    ·repeat' first|refine X ?_|exact yaF|refine yaS ?_ ?_<;>intro _
     refine Go.drawn hr hq4 rfl rfl rfl (z3 60 gb gb) ?_;rintro _ q5 hq5 ⟨b6,rfl⟩
     cases b6
     ·repeat' first|refine X ?_|exact yaF|refine yaS ?_ ?_<;>intro _
      refine Go.app1 (k:=0) (ys:=vs.map encV) (junk:=junk) (z:=encV (⟨2,0,[]⟩:Val)) rfl rfl rfl rfl rfl lens hj rfl hbd λu' junk' hj'=>?_;repeat' first|refine X ?_|exact yaF|refine yaS ?_ ?_<;>intro _
      refine Go.freezeN (l:=[(u',vs.map encV++[encV (⟨2,0,[]⟩:Val)]++junk')]) (m:=[(0,[encV (⟨2,0,[]⟩:Val)])]) (fr':=[(0,.c (.ptr id v 0 0)),(3,.c (.fp (ja t))),(5,.c (vec (G.next+0) u' ((vs++[(⟨2,0,[]⟩:Val)]).map encV) junk')),(6,.c (.int .i64 (IntKind.i64.wrap (k+1))))]) (hr.old hS) (keepF _ _ _ hj') (yaf _) (.frz rfl (.refl (z4 (yaw hr.2.1))) (.frz rfl (.refl (hT _ (ybh _))) (.frz (by rw[yak];rfl) (.refl (zai (yal _))) (.frz rfl (.refl zu) .nil)))) ?_;exact fin (⟨2,0,[]⟩:Val) q5 u' junk' (by simp[bV,zf,vInt]<;>omega) hq5 hj' _ _ rfl (by rw[List.map_append];rfl)
     ·repeat' first|refine X ?_|exact yaF|refine yaS ?_ ?_<;>intro _
      refine Go.drawn hr hq5 rfl rfl rfl wc8 ?_;rintro _ q6 hq6 ⟨w,hw,rfl⟩;repeat' first|refine X ?_|exact yaF|refine yaS ?_ ?_<;>intro _
      refine Go.app1 (k:=0) (ys:=vs.map encV) (junk:=junk) (z:=encV w) rfl rfl rfl rfl rfl lens hj rfl hbd λu' junk' hj'=>?_;repeat' first|refine X ?_|exact yaF|refine yaS ?_ ?_<;>intro _
      refine Go.freezeN (l:=[(u',vs.map encV++[encV w]++junk')]) (m:=[(0,[encV w])]) (fr':=[(0,.c (.ptr id v 0 0)),(3,.c (.fp (ja t))),(5,.c (vec (G.next+0) u' ((vs++[w]).map encV) junk')),(6,.c (.int .i64 (IntKind.i64.wrap (k+1))))]) (hr.old hS) (keepF _ _ _ hj') (yaf _) (.frz rfl (.refl (z4 (yaw hr.2.1))) (.frz rfl (.refl (hT _ (ybh _))) (.frz (by rw[yak];rfl) (.refl (zai (yal _))) (.frz rfl (.refl zu) .nil)))) ?_;exact fin w q6 u' junk' (by simp[bV,zf,vInt]<;>omega) hq6 hj' _ _ rfl (by rw[List.map_append];rfl)
    ·repeat' first|refine X ?_|exact yaF|refine yaS ?_ ?_<;>intro _
     refine Go.drawn hr hq4 rfl rfl rfl (z3 60 gb gb) ?_;rintro _ q5 hq5 ⟨b6,rfl⟩
     cases b6
     ·repeat' first|refine X ?_|exact yaF|refine yaS ?_ ?_<;>intro _
      refine Go.app1 (k:=0) (ys:=vs.map encV) (junk:=junk) (z:=encV zf) rfl rfl rfl rfl rfl lens hj rfl hbd λu' junk' hj'=>?_;repeat' first|refine X ?_|exact yaF|refine yaS ?_ ?_<;>intro _
      refine Go.freezeN (l:=[(u',vs.map encV++[encV zf]++junk')]) (m:=[(0,[encV zf])]) (fr':=[(0,.c (.ptr id v 0 0)),(3,.c (.fp (ja t))),(5,.c (vec (G.next+0) u' ((vs++[zf]).map encV) junk')),(6,.c (.int .i64 (IntKind.i64.wrap (k+1))))]) (hr.old hS) (keepF _ _ _ hj') (yaf _) (.frz rfl (.refl (z4 (yaw hr.2.1))) (.frz rfl (.refl (hT _ (ybh _))) (.frz (by rw[yak];rfl) (.refl (zai (yal _))) (.frz rfl (.refl zu) .nil)))) ?_;exact fin zf q5 u' junk' (by simp[bV,zf,vInt]<;>omega) hq5 hj' _ _ rfl (by rw[List.map_append];rfl)
     ·repeat' first|refine X ?_|exact yaF|refine yaS ?_ ?_<;>intro _
      refine Go.drawn hr hq5 rfl rfl rfl wc8 ?_;rintro _ q6 hq6 ⟨w,hw,rfl⟩;repeat' first|refine X ?_|exact yaF|refine yaS ?_ ?_<;>intro _
      refine Go.app1 (k:=0) (ys:=vs.map encV) (junk:=junk) (z:=encV w) rfl rfl rfl rfl rfl lens hj rfl hbd λu' junk' hj'=>?_;repeat' first|refine X ?_|exact yaF|refine yaS ?_ ?_<;>intro _
      refine Go.freezeN (l:=[(u',vs.map encV++[encV w]++junk')]) (m:=[(0,[encV w])]) (fr':=[(0,.c (.ptr id v 0 0)),(3,.c (.fp (ja t))),(5,.c (vec (G.next+0) u' ((vs++[w]).map encV) junk')),(6,.c (.int .i64 (IntKind.i64.wrap (k+1))))]) (hr.old hS) (keepF _ _ _ hj') (yaf _) (.frz rfl (.refl (z4 (yaw hr.2.1))) (.frz rfl (.refl (hT _ (ybh _))) (.frz (by rw[yak];rfl) (.refl (zai (yal _))) (.frz rfl (.refl zu) .nil)))) ?_;exact fin w q6 u' junk' (by simp[bV,zf,vInt]<;>omega) hq6 hj' _ _ rfl (by rw[List.map_append];rfl)
   ·repeat' first|refine X ?_|((first|apply yQ|apply yR|apply yS);(iterate 3 exact rfl);exact wdq _)|exact yaF|refine yaS ?_ ?_<;>intro _
    refine Go.drawn hr hq2 rfl rfl rfl (z3 8 gb gb) ?_;rintro _ q4 hq4 ⟨b5,rfl⟩
    cases b5
    ·repeat' first|refine X ?_|exact yaF|refine yaS ?_ ?_<;>intro _
     refine Go.drawn hr hq4 rfl rfl rfl (z3 60 gb gb) ?_;rintro _ q5 hq5 ⟨b6,rfl⟩
     cases b6
     ·repeat' first|refine X ?_|exact yaF|refine yaS ?_ ?_<;>intro _
      refine Go.app1 (k:=0) (ys:=vs.map encV) (junk:=junk) (z:=encV (⟨2,0,[97]⟩:Val)) rfl rfl rfl rfl rfl lens hj rfl hbd λu' junk' hj'=>?_;repeat' first|refine X ?_|exact yaF|refine yaS ?_ ?_<;>intro _
      refine Go.freezeN (l:=[(u',vs.map encV++[encV (⟨2,0,[97]⟩:Val)]++junk')]) (m:=[(0,[encV (⟨2,0,[97]⟩:Val)])]) (fr':=[(0,.c (.ptr id v 0 0)),(3,.c (.fp (ja t))),(5,.c (vec (G.next+0) u' ((vs++[(⟨2,0,[97]⟩:Val)]).map encV) junk')),(6,.c (.int .i64 (IntKind.i64.wrap (k+1))))]) (hr.old hS) (keepF _ _ _ hj') (yaf _) (.frz rfl (.refl (z4 (yaw hr.2.1))) (.frz rfl (.refl (hT _ (ybh _))) (.frz (by rw[yak];rfl) (.refl (zai (yal _))) (.frz rfl (.refl zu) .nil)))) ?_;exact fin (⟨2,0,[97]⟩:Val) q5 u' junk' (by simp[bV,zf,vInt]<;>omega) hq5 hj' _ _ rfl (by rw[List.map_append];rfl)
     ·repeat' first|refine X ?_|exact yaF|refine yaS ?_ ?_<;>intro _
      refine Go.drawn hr hq5 rfl rfl rfl wc8 ?_;rintro _ q6 hq6 ⟨w,hw,rfl⟩;repeat' first|refine X ?_|exact yaF|refine yaS ?_ ?_<;>intro _
      refine Go.app1 (k:=0) (ys:=vs.map encV) (junk:=junk) (z:=encV w) rfl rfl rfl rfl rfl lens hj rfl hbd λu' junk' hj'=>?_;repeat' first|refine X ?_|exact yaF|refine yaS ?_ ?_<;>intro _
      refine Go.freezeN (l:=[(u',vs.map encV++[encV w]++junk')]) (m:=[(0,[encV w])]) (fr':=[(0,.c (.ptr id v 0 0)),(3,.c (.fp (ja t))),(5,.c (vec (G.next+0) u' ((vs++[w]).map encV) junk')),(6,.c (.int .i64 (IntKind.i64.wrap (k+1))))]) (hr.old hS) (keepF _ _ _ hj') (yaf _) (.frz rfl (.refl (z4 (yaw hr.2.1))) (.frz rfl (.refl (hT _ (ybh _))) (.frz (by rw[yak];rfl) (.refl (zai (yal _))) (.frz rfl (.refl zu) .nil)))) ?_;exact fin w q6 u' junk' (by simp[bV,zf,vInt]<;>omega) hq6 hj' _ _ rfl (by rw[List.map_append];rfl)
    ·repeat' first|refine X ?_|exact yaF|refine yaS ?_ ?_<;>intro _
     refine Go.drawn hr hq4 rfl rfl rfl (z3 60 gb gb) ?_;rintro _ q5 hq5 ⟨b6,rfl⟩
     cases b6
     ·repeat' first|refine X ?_|exact yaF|refine yaS ?_ ?_<;>intro _
      refine Go.app1 (k:=0) (ys:=vs.map encV) (junk:=junk) (z:=encV zf) rfl rfl rfl rfl rfl lens hj rfl hbd λu' junk' hj'=>?_;repeat' first|refine X ?_|exact yaF|refine yaS ?_ ?_<;>intro _
      refine Go.freezeN (l:=[(u',vs.map encV++[encV zf]++junk')]) (m:=[(0,[encV zf])]) (fr':=[(0,.c (.ptr id v 0 0)),(3,.c (.fp (ja t))),(5,.c (vec (G.next+0) u' ((vs++[zf]).map encV) junk')),(6,.c (.int .i64 (IntKind.i64.wrap (k+1))))]) (hr.old hS) (keepF _ _ _ hj') (yaf _) (.frz rfl (.refl (z4 (yaw hr.2.1))) (.frz rfl (.refl (hT _ (ybh _))) (.frz (by rw[yak];rfl) (.refl (zai (yal _))) (.frz rfl (.refl zu) .nil)))) ?_;exact fin zf q5 u' junk' (by simp[bV,zf,vInt]<;>omega) hq5 hj' _ _ rfl (by rw[List.map_append];rfl)
     ·repeat' first|refine X ?_|exact yaF|refine yaS ?_ ?_<;>intro _
      refine Go.drawn hr hq5 rfl rfl rfl wc8 ?_;rintro _ q6 hq6 ⟨w,hw,rfl⟩;repeat' first|refine X ?_|exact yaF|refine yaS ?_ ?_<;>intro _
      refine Go.app1 (k:=0) (ys:=vs.map encV) (junk:=junk) (z:=encV w) rfl rfl rfl rfl rfl lens hj rfl hbd λu' junk' hj'=>?_;repeat' first|refine X ?_|exact yaF|refine yaS ?_ ?_<;>intro _
      refine Go.freezeN (l:=[(u',vs.map encV++[encV w]++junk')]) (m:=[(0,[encV w])]) (fr':=[(0,.c (.ptr id v 0 0)),(3,.c (.fp (ja t))),(5,.c (vec (G.next+0) u' ((vs++[w]).map encV) junk')),(6,.c (.int .i64 (IntKind.i64.wrap (k+1))))]) (hr.old hS) (keepF _ _ _ hj') (yaf _) (.frz rfl (.refl (z4 (yaw hr.2.1))) (.frz rfl (.refl (hT _ (ybh _))) (.frz (by rw[yak];rfl) (.refl (zai (yal _))) (.frz rfl (.refl zu) .nil)))) ?_;exact fin w q6 u' junk' (by simp[bV,zf,vInt]<;>omega) hq6 hj' _ _ rfl (by rw[List.map_append];rfl)
   ·repeat' first|refine X ?_|((first|apply yQ|apply yR|apply yS);(iterate 3 exact rfl);exact wdq _)|exact yaF|refine yaS ?_ ?_<;>intro _
    refine Go.drawn hr hq2 rfl rfl rfl (z3 8 gb gb) ?_;rintro _ q4 hq4 ⟨b5,rfl⟩
    cases b5
    ·repeat' first|refine X ?_|exact yaF|refine yaS ?_ ?_<;>intro _
     refine Go.drawn hr hq4 rfl rfl rfl (z3 60 gb gb) ?_;rintro _ q5 hq5 ⟨b6,rfl⟩
     cases b6
     ·repeat' first|refine X ?_|exact yaF|refine yaS ?_ ?_<;>intro _
      refine Go.app1 (k:=0) (ys:=vs.map encV) (junk:=junk) (z:=encV (⟨2,0,[98]⟩:Val)) rfl rfl rfl rfl rfl lens hj rfl hbd λu' junk' hj'=>?_;repeat' first|refine X ?_|exact yaF|refine yaS ?_ ?_<;>intro _
      refine Go.freezeN (l:=[(u',vs.map encV++[encV (⟨2,0,[98]⟩:Val)]++junk')]) (m:=[(0,[encV (⟨2,0,[98]⟩:Val)])]) (fr':=[(0,.c (.ptr id v 0 0)),(3,.c (.fp (ja t))),(5,.c (vec (G.next+0) u' ((vs++[(⟨2,0,[98]⟩:Val)]).map encV) junk')),(6,.c (.int .i64 (IntKind.i64.wrap (k+1))))]) (hr.old hS) (keepF _ _ _ hj') (yaf _) (.frz rfl (.refl (z4 (yaw hr.2.1))) (.frz rfl (.refl (hT _ (ybh _))) (.frz (by rw[yak];rfl) (.refl (zai (yal _))) (.frz rfl (.refl zu) .nil)))) ?_;exact fin (⟨2,0,[98]⟩:Val) q5 u' junk' (by simp[bV,zf,vInt]<;>omega) hq5 hj' _ _ rfl (by rw[List.map_append];rfl)
     ·repeat' first|refine X ?_|exact yaF|refine yaS ?_ ?_<;>intro _
      refine Go.drawn hr hq5 rfl rfl rfl wc8 ?_;rintro _ q6 hq6 ⟨w,hw,rfl⟩;repeat' first|refine X ?_|exact yaF|refine yaS ?_ ?_<;>intro _
      refine Go.app1 (k:=0) (ys:=vs.map encV) (junk:=junk) (z:=encV w) rfl rfl rfl rfl rfl lens hj rfl hbd λu' junk' hj'=>?_;repeat' first|refine X ?_|exact yaF|refine yaS ?_ ?_<;>intro _
      refine Go.freezeN (l:=[(u',vs.map encV++[encV w]++junk')]) (m:=[(0,[encV w])]) (fr':=[(0,.c (.ptr id v 0 0)),(3,.c (.fp (ja t))),(5,.c (vec (G.next+0) u' ((vs++[w]).map encV) junk')),(6,.c (.int .i64 (IntKind.i64.wrap (k+1))))]) (hr.old hS) (keepF _ _ _ hj') (yaf _) (.frz rfl (.refl (z4 (yaw hr.2.1))) (.frz rfl (.refl (hT _ (ybh _))) (.frz (by rw[yak];rfl) (.refl (zai (yal _))) (.frz rfl (.refl zu) .nil)))) ?_;exact fin w q6 u' junk' (by simp[bV,zf,vInt]<;>omega) hq6 hj' _ _ rfl (by rw[List.map_append];rfl)
    ·repeat' first|refine X ?_|exact yaF|refine yaS ?_ ?_<;>intro _
     refine Go.drawn hr hq4 rfl rfl rfl (z3 60 gb gb) ?_;rintro _ q5 hq5 ⟨b6,rfl⟩
     cases b6
     ·repeat' first|refine X ?_|exact yaF|refine yaS ?_ ?_<;>intro _
      refine Go.app1 (k:=0) (ys:=vs.map encV) (junk:=junk) (z:=encV zf) rfl rfl rfl rfl rfl lens hj rfl hbd λu' junk' hj'=>?_;repeat' first|refine X ?_|exact yaF|refine yaS ?_ ?_<;>intro _
      refine Go.freezeN (l:=[(u',vs.map encV++[encV zf]++junk')]) (m:=[(0,[encV zf])]) (fr':=[(0,.c (.ptr id v 0 0)),(3,.c (.fp (ja t))),(5,.c (vec (G.next+0) u' ((vs++[zf]).map encV) junk')),(6,.c (.int .i64 (IntKind.i64.wrap (k+1))))]) (hr.old hS) (keepF _ _ _ hj') (yaf _) (.frz rfl (.refl (z4 (yaw hr.2.1))) (.frz rfl (.refl (hT _ (ybh _))) (.frz (by rw[yak];rfl) (.refl (zai (yal _))) (.frz rfl (.refl zu) .nil)))) ?_;exact fin zf q5 u' junk' (by simp[bV,zf,vInt]<;>omega) hq5 hj' _ _ rfl (by rw[List.map_append];rfl)
     ·repeat' first|refine X ?_|exact yaF|refine yaS ?_ ?_<;>intro _
      refine Go.drawn hr hq5 rfl rfl rfl wc8 ?_;rintro _ q6 hq6 ⟨w,hw,rfl⟩;repeat' first|refine X ?_|exact yaF|refine yaS ?_ ?_<;>intro _
      refine Go.app1 (k:=0) (ys:=vs.map encV) (junk:=junk) (z:=encV w) rfl rfl rfl rfl rfl lens hj rfl hbd λu' junk' hj'=>?_;repeat' first|refine X ?_|exact yaF|refine yaS ?_ ?_<;>intro _
      refine Go.freezeN (l:=[(u',vs.map encV++[encV w]++junk')]) (m:=[(0,[encV w])]) (fr':=[(0,.c (.ptr id v 0 0)),(3,.c (.fp (ja t))),(5,.c (vec (G.next+0) u' ((vs++[w]).map encV) junk')),(6,.c (.int .i64 (IntKind.i64.wrap (k+1))))]) (hr.old hS) (keepF _ _ _ hj') (yaf _) (.frz rfl (.refl (z4 (yaw hr.2.1))) (.frz rfl (.refl (hT _ (ybh _))) (.frz (by rw[yak];rfl) (.refl (zai (yal _))) (.frz rfl (.refl zu) .nil)))) ?_;exact fin w q6 u' junk' (by simp[bV,zf,vInt]<;>omega) hq6 hj' _ _ rfl (by rw[List.map_append];rfl)
  ·have ht:True:=trivial;refine Go.drawn hr hq1 rfl rfl rfl (z3 8 gb gb) ?_;rintro _ q4 hq4 ⟨b5,rfl⟩
   cases b5
   ·repeat' first|refine X ?_|exact yaF|refine yaS ?_ ?_<;>intro _
    refine Go.drawn hr hq4 rfl rfl rfl (z3 60 gb gb) ?_;rintro _ q5 hq5 ⟨b6,rfl⟩
    cases b6
    ·repeat' first|refine X ?_|exact yaF|refine yaS ?_ ?_<;>intro _
     refine Go.app1 (k:=0) (ys:=vs.map encV) (junk:=junk) (z:=encV (vInt a)) rfl rfl rfl rfl rfl lens hj rfl hbd λu' junk' hj'=>?_;repeat' first|refine X ?_|exact yaF|refine yaS ?_ ?_<;>intro _
     refine Go.freezeN (l:=[(u',vs.map encV++[encV (vInt a)]++junk')]) (m:=[(0,[encV (vInt a)])]) (fr':=[(0,.c (.ptr id v 0 0)),(3,.c (.fp (ja t))),(5,.c (vec (G.next+0) u' ((vs++[(vInt a)]).map encV) junk')),(6,.c (.int .i64 (IntKind.i64.wrap (k+1))))]) (hr.old hS) (keepF _ _ _ hj') (yaf _) (.frz rfl (.refl (z4 (yaw hr.2.1))) (.frz rfl (.refl (hT _ (ybh _))) (.frz (by rw[yak];rfl) (.refl (zai (yal _))) (.frz rfl (.refl zu) .nil)))) ?_;exact fin (vInt a) q5 u' junk' (by simp[bV,zf,vInt]<;>omega) hq5 hj' _ _ rfl (by rw[List.map_append];rfl)
    ·repeat' first|refine X ?_|exact yaF|refine yaS ?_ ?_<;>intro _
     refine Go.drawn hr hq5 rfl rfl rfl wc8 ?_;rintro _ q6 hq6 ⟨w,hw,rfl⟩;repeat' first|refine X ?_|exact yaF|refine yaS ?_ ?_<;>intro _
     refine Go.app1 (k:=0) (ys:=vs.map encV) (junk:=junk) (z:=encV w) rfl rfl rfl rfl rfl lens hj rfl hbd λu' junk' hj'=>?_;repeat' first|refine X ?_|exact yaF|refine yaS ?_ ?_<;>intro _
     refine Go.freezeN (l:=[(u',vs.map encV++[encV w]++junk')]) (m:=[(0,[encV w])]) (fr':=[(0,.c (.ptr id v 0 0)),(3,.c (.fp (ja t))),(5,.c (vec (G.next+0) u' ((vs++[w]).map encV) junk')),(6,.c (.int .i64 (IntKind.i64.wrap (k+1))))]) (hr.old hS) (keepF _ _ _ hj') (yaf _) (.frz rfl (.refl (z4 (yaw hr.2.1))) (.frz rfl (.refl (hT _ (ybh _))) (.frz (by rw[yak];rfl) (.refl (zai (yal _))) (.frz rfl (.refl zu) .nil)))) ?_;exact fin w q6 u' junk' (by simp[bV,zf,vInt]<;>omega) hq6 hj' _ _ rfl (by rw[List.map_append];rfl)
   ·repeat' first|refine X ?_|exact yaF|refine yaS ?_ ?_<;>intro _
    refine Go.drawn hr hq4 rfl rfl rfl (z3 60 gb gb) ?_;rintro _ q5 hq5 ⟨b6,rfl⟩
    cases b6
    ·repeat' first|refine X ?_|exact yaF|refine yaS ?_ ?_<;>intro _
     refine Go.app1 (k:=0) (ys:=vs.map encV) (junk:=junk) (z:=encV zf) rfl rfl rfl rfl rfl lens hj rfl hbd λu' junk' hj'=>?_;repeat' first|refine X ?_|exact yaF|refine yaS ?_ ?_<;>intro _
     refine Go.freezeN (l:=[(u',vs.map encV++[encV zf]++junk')]) (m:=[(0,[encV zf])]) (fr':=[(0,.c (.ptr id v 0 0)),(3,.c (.fp (ja t))),(5,.c (vec (G.next+0) u' ((vs++[zf]).map encV) junk')),(6,.c (.int .i64 (IntKind.i64.wrap (k+1))))]) (hr.old hS) (keepF _ _ _ hj') (yaf _) (.frz rfl (.refl (z4 (yaw hr.2.1))) (.frz rfl (.refl (hT _ (ybh _))) (.frz (by rw[yak];rfl) (.refl (zai (yal _))) (.frz rfl (.refl zu) .nil)))) ?_;exact fin zf q5 u' junk' (by simp[bV,zf,vInt]<;>omega) hq5 hj' _ _ rfl (by rw[List.map_append];rfl)
    ·repeat' first|refine X ?_|exact yaF|refine yaS ?_ ?_<;>intro _
     refine Go.drawn hr hq5 rfl rfl rfl wc8 ?_;rintro _ q6 hq6 ⟨w,hw,rfl⟩;repeat' first|refine X ?_|exact yaF|refine yaS ?_ ?_<;>intro _
     refine Go.app1 (k:=0) (ys:=vs.map encV) (junk:=junk) (z:=encV w) rfl rfl rfl rfl rfl lens hj rfl hbd λu' junk' hj'=>?_;repeat' first|refine X ?_|exact yaF|refine yaS ?_ ?_<;>intro _
     refine Go.freezeN (l:=[(u',vs.map encV++[encV w]++junk')]) (m:=[(0,[encV w])]) (fr':=[(0,.c (.ptr id v 0 0)),(3,.c (.fp (ja t))),(5,.c (vec (G.next+0) u' ((vs++[w]).map encV) junk')),(6,.c (.int .i64 (IntKind.i64.wrap (k+1))))]) (hr.old hS) (keepF _ _ _ hj') (yaf _) (.frz rfl (.refl (z4 (yaw hr.2.1))) (.frz rfl (.refl (hT _ (ybh _))) (.frz (by rw[yak];rfl) (.refl (zai (yal _))) (.frz rfl (.refl zu) .nil)))) ?_;exact fin w q6 u' junk' (by simp[bV,zf,vInt]<;>omega) hq6 hj' _ _ rfl (by rw[List.map_append];rfl)
 ·repeat' first|refine X ?_|exact yaF|refine yaS ?_ ?_<;>intro _
  exact .ret rfl ⟨q,vs,u,junk,hq,O,hb,hj,rfl,rfl⟩
variable {rets:List RV}{R:AV->jb->Prop}{K:List AK}{fr:Fr}
theorem Go.meet{P:Program}{n0 nt:Nat}{K':List AK}(I:Fr->jb->Prop)(h2:∀K,(∀fr G,I fr G->Go P n0 nt rets R K fr G)->Go P n0 nt rets R (K'++K) fr G)(h1:∀fr G,I fr G->Go P n0 nt rets R K fr G):Go P n0 nt rets R (K'++K) fr G:=h2 K h1
def NF(x:Ce)(ys:List (List Ce)):Prop:=x=.fz ys\/(x=.nils/\ys=[])
def OldL(n:Nat)(ys:List (List Ce)):Prop:=∀e∈ys,∀c∈e,Old n c
theorem NF.frz{V:jb}{n:Nat}{x:Ce}{ys:List (List Ce)}(h:NF x ys)(ho:OldL n ys):Frz V n x (.fz ys):=by
 rcases h with rfl|⟨rfl,rfl⟩
 ·exact .same _ (.fz _ λi j hi hj=>ho _ (yaa hi) _ (yaa hj))
 ·exact .nil
theorem j8(h:∀e∈ys,∀x∈e,Flat x):OldL n ys:=λe he c hc=>(h e he c hc).old _
theorem jl(h:OldL n ys):Old n (.fz ys):=.fz _ λi j hi hj=>h _ (yaa hi) _ (yaa hj)
theorem wh4(l:List Col):OldL n (l.map jf):=j8 λe he x hx=>by
 obtain⟨a,_,rfl⟩:=List.mem_map.1 he;exact zjd a x hx
theorem wd2(l:List Int):OldL n (l.map encI):=j8 λe he x hx=>(zkz l e he).2 x hx
theorem weo(l:List Uniq):OldL n (l.map zaz):=λe he c hc=>by
 obtain⟨a,_,rfl⟩:=List.mem_map.1 he;simp only[zaz,List.mem_cons,List.not_mem_nil,or_false]at hc;subst hc;exact jl (wd2 _)
theorem jgo(l:List Chk):OldL n (l.map jbm):=λe he c hc=>by
 obtain⟨a,_,rfl⟩:=List.mem_map.1 he;simp only[jbm,List.mem_cons,List.not_mem_nil,or_false]at hc;subst hc;exact jl (j8 wb3)
theorem wji(l:List Fk):OldL n (l.map wal):=λe he c hc=>by
 obtain⟨a,_,rfl⟩:=List.mem_map.1 he;simp only[wal,List.mem_cons,List.not_mem_nil,or_false]at hc;rcases hc with rfl|rfl|rfl|rfl|rfl
 ·exact jl (wd2 _)
 all_goals constructor
structure TabC(e:List Ce)(t:wc):Prop where
 has:∃x2 x3 x4 x5,e=[.str t.name,.fz (t.cols.map jf),x2,x3,x4,x5]/\NF x2 (t.key.map encI)/\NF x3 (t.uniques.map zaz)/\NF x4 (t.checks.map jbm)/\NF x5 (t.fks.map wal)
structure whe(t:wc):Prop where
 b:wad 12 t
 lo:2<=t.cols.length
 hi:t.cols.length<=3
def SchD(s:List wc):Prop:=1<=s.length/\s.length<=3/\∀t∈s,whe t
def zh5(r:AV):Prop:=∃s:List wc,SchD s/\r=.c (.fz (s.map ja))
def Rest(ps:List (List Ce×wc)):Prop:=∀p∈ps,TabC p.1 p.2/\whe p.2
def colK:Col:=⟨[107],1,true,zf⟩
def colT:Col:=⟨[116],2,false,zf⟩
def colN:Col:=⟨[110],1,false,vInt 1⟩
def war(nm:List UInt8)(id:Nat)(x2 x3 x4:Ce):List Ce:=[.str nm,.sl id 0 0 3 3,x2,x3,x4,.nils]
structure Head(x3 x4:Ce)(us:List Uniq)(ks:List Chk):Prop where
 u:NF x3 (us.map zaz)
 k:NF x4 (ks.map jbm)
 bu:us.length<=12/\∀x∈us,wjc 12 x
 bk:ks.length<=12/\∀x∈ks,bChk 12 x
variable {nm:List UInt8}
theorem jcz{u:Nat}{x2 x3 x4:Ce}{c0 c1 c2:Col}{key:List Int}{us:List Uniq}{ks:List Chk}{ps:List (List Ce×wc)}{pb:List (List Ce)}{vb:Nat}
 (hnm:nm.length<=12) (hk:key.length<=12) (h2:NF x2 (key.map encI)) (hH:Head x3 x4 us ks) (hb:bCol 12 c0/\bCol 12 c1/\bCol 12 c2) (hR:Rest ps) (hp:ps.length<=2):
 ∃s:List wc,SchD s/\FrzV (E G [(0,[jf c0,jf c1,jf c2]),(vb,pb),(u,war nm (G.next+0) x2 x3 x4::ps.map Prod.fst++junk)]) G.next (.c (vec (G.next+2) u (war nm (G.next+0) x2 x3 x4::ps.map Prod.fst) junk)) (.c (.fz (s.map ja))):=by
 obtain⟨p,hpdef⟩:∃p:wc,p=⟨nm,[c0,c1,c2],key,us,ks,[]⟩:=⟨_,rfl⟩;have hsp:whe p:=by
  subst hpdef;refine⟨⟨hnm,⟨gx,λx hx=>?_⟩,hk,hH.bu,hH.bk,gx,λx hx=>by simp at hx⟩,gx,gx⟩;simp only[List.mem_cons,List.not_mem_nil,or_false]at hx;rcases hx with rfl|rfl|rfl
  ·exact hb.1
  ·exact hb.2.1
  ·exact hb.2.2
 refine⟨p::ps.map Prod.snd,⟨gx,by simp;omega,λt ht=>?_⟩, ?_⟩
 ·rcases List.mem_cons.1 ht with rfl|ht
  ·exact hsp
  ·obtain⟨q,hq,rfl⟩:=List.mem_map.1 ht;exact(hR q hq).2
 ·have hlen:(war nm (G.next+0) x2 x3 x4::ps.map Prod.fst).length=ps.length+1:=gx;have hcell:∀(q:List Ce×wc),q∈ps->q.1.length=6/\∀j (h1:j<q.1.length) (h2:j<(ja q.2).length),Frz (E G [(0,[jf c0,jf c1,jf c2]),(vb,pb),(u,war nm (G.next+0) x2 x3 x4::ps.map Prod.fst++junk)]) G.next q.1[j] (ja q.2)[j]:=λq hq=>by
   obtain⟨y2,y3,y4,y5,he,k2,k3,k4,k5⟩:=(hR q hq).1.has;refine⟨by rw[he];rfl, ?_⟩;generalize q.1=e at he;subst he;intro j h1 h2;have hj:j=0\/j=1\/j=2\/j=3\/j=4\/j=5:=by simp at h1;omega
   rcases hj with rfl|rfl|rfl|rfl|rfl|rfl
   ·exact .same _ (.str _)
   ·exact .same _ (jl (wh4 _))
   ·exact k2.frz (wd2 _)
   ·exact k3.frz (weo _)
   ·exact k4.frz (jgo _)
   ·exact k5.frz (wji _)
  have hcols:Frz (E G [(0,[jf c0,jf c1,jf c2]),(vb,pb),(u,war nm (G.next+0) x2 x3 x4::ps.map Prod.fst++junk)]) G.next (.sl (G.next+0) 0 0 3 3) (.fz ([c0,c1,c2].map jf)):=by
   have:=wbt (G:=G) (l:=[(0,[jf c0,jf c1,jf c2]),(vb,pb),(u,war nm (G.next+0) x2 x3 x4::ps.map Prod.fst++junk)]) (k:=0) (v:=0) (n:=0) (c:=3) (N:=G.next) (ys:=[c0,c1,c2].map jf) (junk:=[]) rfl (λe he x hx=>by
    obtain⟨a,_,rfl⟩:=List.mem_map.1 he;exact zjd a x hx) (yac _) (yaf _)
   cases this with
   |c h=>exact h
  have hhead:∀j (h1:j<(war nm (G.next+0) x2 x3 x4).length) (h2:j<(ja p).length),Frz (E G [(0,[jf c0,jf c1,jf c2]),(vb,pb),(u,war nm (G.next+0) x2 x3 x4::ps.map Prod.fst++junk)]) G.next (war nm (G.next+0) x2 x3 x4)[j] (ja p)[j]:=by
   subst hpdef;intro j h1 h2';have hj:j=0\/j=1\/j=2\/j=3\/j=4\/j=5:=by simp[war]at h1;omega
   rcases hj with rfl|rfl|rfl|rfl|rfl|rfl
   ·exact .same _ (.str _)
   ·exact hcols
   ·exact h2.frz (wd2 _)
   ·exact hH.u.frz (weo _)
   ·exact hH.k.frz (jgo _)
   ·exact .nil
  refine .c (.sl _ _ _ _ _ (war nm (G.next+0) x2 x3 x4::ps.map Prod.fst++junk) _ (ybc _ _) (jck (k:=2) rfl) (by rw[yaqq];omega) gx (λi hi=>?_) (λi j hi hj=>?_))
  ·cases i with
   |zero=>rfl
   |succ i=>
    have hi2:i<ps.length:=by rw[hlen]at hi;omega
    simp only[Nat.zero_add,List.cons_append,List.map_cons,List.getElem_cons_succ,List.map_map,List.getElem_map];rw[List.getElem_append_left (by simpa using hi2),List.getElem_map,(hcell _ (List.getElem_mem hi2)).1]
    rfl
  ·cases i with
   |zero=>exact hhead j hj hj
   |succ i=>
    have hi2:i<ps.length:=by rw[hlen]at hi;omega
    have hz:=hcell _ (yaa hi2);simp only[Nat.zero_add,List.cons_append,List.map_cons,List.getElem_cons_succ,List.map_map,List.getElem_map];have e1:(ps.map Prod.fst++junk)[i]'gq=ps[i].1:=by rw[List.getElem_append_left (by simpa using hi2),List.getElem_map]
    simp only[e1];exact hz.2 j (by rw[hz.1];have h6:j<(ja ps[i].2).length:=(by simpa using hj);exact h6) _
theorem zjj:jal Tryz.prog 126 [] zh5:=by
 refine jal.run mixed wcl gz λG id v code p hr hp hc hS=>?_;clear hS;repeat' first|refine yaN ?_|((first|apply yQ|apply yR|apply yS);(iterate 3 exact rfl);exact jak _)|exact yaF|refine yaS ?_ ?_<;>intro _
 refine Go.meet (K':=[_,_]) (λfr V=>∃(q:Nat) (x3:Ce) (us:List Uniq),q<=code.length/\(NF x3 (us.map zaz)/\us.length<=12/\∀x∈us,wjc 12 x)/\fr=[(0,.c (.ptr id v 0 0)),(3,.c (.ptr (G.next+1) 0 0 0))]/\
  V=E (Rd.go G id v code q) [(0,[jf colK,jf colT,jf colN]),(0,[war [112] (G.next+0) (.fz ([0].map encI)) x3 .nils])]) (λK h=>?_) ?_
 ·refine Go.drawn hr hp rfl rfl rfl (z3 2 gb gb) ?_;rintro _ q hq ⟨b,rfl⟩
  cases b
  ·repeat' first|refine yaN ?_|exact yaF|refine yaS ?_ ?_<;>intro _
   exact Go.keep [0,3] (h _ _ ⟨q,.nils,[],hq,⟨.inr ⟨rfl,rfl⟩,gb,λx hx=>by simp at hx⟩,rfl,rfl⟩)
  ·repeat' first|refine yaN ?_|exact yaF|refine yaS ?_ ?_<;>intro _
   exact Go.keep [0,3] (h _ _ ⟨q,_,[⟨[2]⟩],hq,⟨.inl rfl,gb,λx hx=>by rw[List.mem_singleton.1 hx];simp[wjc]⟩,rfl,rfl⟩)
 rintro fr V ⟨q,x3,us,hq,h3,rfl,rfl⟩;clear hp;repeat' first|refine yaN ?_|exact yaF|refine yaS ?_ ?_<;>intro _
 refine Go.meet (K':=[_,_]) (λfr V=>∃(q:Nat) (x4:Ce) (ks:List Chk),q<=code.length/\(NF x4 (ks.map jbm)/\ks.length<=12/\∀x∈ks,bChk 12 x)/\fr=[(0,.c (.ptr id v 0 0)),(3,.c (.ptr (G.next+1) 0 0 0))]/\
  V=E (Rd.go G id v code q) [(0,[jf colK,jf colT,jf colN]),(0,[war [112] (G.next+0) (.fz ([0].map encI)) x3 x4])]) (λK h=>?_) ?_
 ·refine Go.drawn hr hq rfl rfl rfl (z3 2 gb gb) ?_;rintro _ q2 hq2 ⟨b,rfl⟩
  cases b
  ·repeat' first|refine yaN ?_|exact yaF|refine yaS ?_ ?_<;>intro _
   exact Go.keep [0,3] (h _ _ ⟨q2,.nils,[],hq2,⟨.inr ⟨rfl,rfl⟩,gb,λx hx=>by simp at hx⟩,rfl,rfl⟩)
  ·repeat' first|refine yaN ?_|((first|apply yQ|apply yR|apply yS);(iterate 3 exact rfl);exact jak _)|((first|apply yQ|apply yR|apply yS);(iterate 3 exact rfl);exact zcz _)|((first|apply yQ|apply yR|apply yS);(iterate 3 exact rfl);exact zaa _)|exact yaF|refine yaS ?_ ?_<;>intro _
   exact Go.keep [0,3] (h _ _ ⟨q2,_,[⟨[tCol 0,zaq (vInt 4),⟨4,0,zf⟩]⟩],hq2,⟨.inl rfl,gb,λx hx=>by
    rw[List.mem_singleton.1 hx];refine⟨gb,λt ht=>?_⟩;simp only[List.mem_cons,List.not_mem_nil,or_false]at ht;rcases ht with rfl|rfl|rfl<;>exact yac _⟩,rfl,rfl⟩)
 rintro fr V ⟨q2,x4,ks,hq2,h4,rfl,rfl⟩;have hH:Head x3 x4 us ks:=⟨h3.1,h4.1,h3.2,h4.2⟩;clear hq h3 h4;repeat' first|refine yaN ?_|exact yaF|refine yaS ?_ ?_<;>intro _
 refine Go.meet (K':=[_,_]) (λfr V=>∃(q u:Nat) (ps:List (List Ce×wc)) (junk:List (List Ce)),q<=code.length/\Rest ps/\ps.length<=1/\Jk 6 junk/\fr=[(0,.c (.ptr id v 0 0)),(4,.c (vec (G.next+2) u (war [112] (G.next+0) (.fz ([0].map encI)) x3 x4::ps.map Prod.fst) junk))]/\
  V=E (Rd.go G id v code q) [(0,[jf colK,jf colT,jf colN]),(0,[war [112] (G.next+0) (.fz ([0].map encI)) x3 x4]),(u,war [112] (G.next+0) (.fz ([0].map encI)) x3 x4::ps.map Prod.fst++junk)]) (λK h=>?_) ?_
 ·refine Go.drawn hr hq2 rfl rfl rfl (z3 4 gb gb) ?_;rintro _ q3 hq3 ⟨b,rfl⟩
  cases b
  ·repeat' first|refine X ?_|exact yaF|refine yaS ?_ ?_<;>intro _
   refine Go.drawn hr hq3 rfl rfl rfl (z3 4 gb gb) ?_;rintro _ q4 hq4 ⟨b1,rfl⟩;repeat' first|refine X ?_|exact yaF|refine yaS ?_ ?_<;>intro _
   refine Go.drawn hr hq4 rfl rfl rfl jdq ?_;rintro _ q5 hq5 ⟨a1,ha0,ha1,rfl⟩;repeat' first|refine X ?_|exact yaF|refine yaS ?_ ?_<;>intro _
   refine Go.drawn hr hq5 rfl rfl rfl jdq ?_;rintro _ q6 hq6 ⟨a2,ha2,ha3,rfl⟩;repeat' first|refine X ?_|exact yaF|refine yaS ?_ ?_<;>intro _
   refine Go.drawn hr hq6 rfl rfl rfl (z3 4 gb gb) ?_;rintro _ q7 hq7 ⟨b2,rfl⟩;repeat' first|refine X ?_|exact yaF|refine yaS ?_ ?_<;>intro _
   refine Go.app1 (k:=2) (ys:=[war [112] (G.next+0) (.fz ([0].map encI)) x3 x4]) (junk:=[]) (z:=[.str [99],.fz ([colK,⟨[112],1,b1,zf⟩].map jf),.fz ([0].map encI),.nils,.nils,.fz ([⟨[1],[112],a1,a2,b2⟩].map wal)]) rfl rfl rfl rfl rfl (λe he=>by rw[List.mem_singleton.1 he];rfl) Jk.nil rfl gx λu' junk' hj'=>?_;repeat' first|refine X ?_|exact yaF|refine yaS ?_ ?_<;>intro _
   refine Go.keep [0,4] (h _ _ ⟨q7,u',[([.str [99],.fz ([colK,⟨[112],1,b1,zf⟩].map jf),.fz ([0].map encI),.nils,.nils,.fz ([⟨[1],[112],a1,a2,b2⟩].map wal)],⟨[99],[colK,⟨[112],1,b1,zf⟩],[0],[],[],[⟨[1],[112],a1,a2,b2⟩]⟩)],junk',hq7,λp hp=>?_,gx,hj',rfl,rfl⟩);rw[List.mem_singleton.1 hp];exact⟨⟨⟨_,_,_,_,rfl,.inl rfl,.inr ⟨rfl,rfl⟩,.inr ⟨rfl,rfl⟩,.inl rfl⟩⟩,⟨⟨gx,⟨gx,λx hx=>by
    simp only[List.mem_cons,List.not_mem_nil,or_false]at hx;rcases hx with rfl|rfl<;>simp[bCol,bV,colK,zf]⟩,gx,⟨gx,λx hx=>by simp at hx⟩,⟨gx,λx hx=>by simp at hx⟩,gx,λx hx=>by rw[List.mem_singleton.1 hx];simp[bFk]⟩,gx,gx⟩⟩
  ·repeat' first|refine X ?_|exact yaF|refine yaS ?_ ?_<;>intro _
   exact Go.keep [0,4] (h _ _ ⟨q3,0,[],[],hq3,λp hp=>by simp at hp,gx,Jk.nil,rfl,rfl⟩)
 rintro fr V ⟨q3,u,ps,junk,hq3,hps,hpl,hj,rfl,rfl⟩;clear hq2;have hlen:∀e∈war [112] (G.next+0) (.fz ([0].map encI)) x3 x4::ps.map Prod.fst,e.length=6:=λe he=>by
  rcases List.mem_cons.1 he with rfl|he
  ·rfl
  ·obtain⟨p,hp,rfl⟩:=List.mem_map.1 he;obtain⟨_,_,_,_,h1,_⟩:=(hps p hp).1.has;rw[h1]
   rfl
 repeat' first|refine X ?_|exact yaF|refine yaS ?_ ?_<;>intro _
 refine Go.meet (K':=[_,_]) (λfr V=>∃(q u:Nat) (ps:List (List Ce×wc)) (junk:List (List Ce)),q<=code.length/\Rest ps/\ps.length<=2/\Jk 6 junk/\fr=[(0,.c (.ptr id v 0 0)),(4,.c (vec (G.next+2) u (war [112] (G.next+0) (.fz ([0].map encI)) x3 x4::ps.map Prod.fst) junk))]/\
  V=E (Rd.go G id v code q) [(0,[jf colK,jf colT,jf colN]),(0,[war [112] (G.next+0) (.fz ([0].map encI)) x3 x4]),(u,war [112] (G.next+0) (.fz ([0].map encI)) x3 x4::ps.map Prod.fst++junk)]) (λK h=>?_) ?_
 ·refine Go.drawn hr hq3 rfl rfl rfl (z3 3 gb gb) ?_;rintro _ q4 hq4 ⟨b,rfl⟩
  cases b
  ·repeat' first|refine X ?_|exact yaF|refine yaS ?_ ?_<;>intro _
   exact Go.keep [0,4] (h _ _ ⟨q4,u,ps,junk,hq4,hps,O,hj,rfl,rfl⟩)
  ·repeat' first|refine X ?_|exact yaF|refine yaS ?_ ?_<;>intro _
   refine Go.drawn hr hq4 rfl rfl rfl jdq ?_;rintro _ q5 hq5 ⟨a1,ha0,ha1,rfl⟩;repeat' first|refine X ?_|exact yaF|refine yaS ?_ ?_<;>intro _
   refine Go.drawn hr hq5 rfl rfl rfl jdq ?_;rintro _ q6 hq6 ⟨a2,ha2,ha3,rfl⟩;repeat' first|refine X ?_|exact yaF|refine yaS ?_ ?_<;>intro _
   refine Go.app1 (k:=2) (ys:=war [112] (G.next+0) (.fz ([0].map encI)) x3 x4::ps.map Prod.fst) (junk:=junk) (z:=[.str [116,114,101,101],.fz ([colK,⟨[117,112],1,false,zf⟩].map jf),.fz ([0].map encI),.nils,.nils,.fz ([⟨[1],[116,114,101,101],a1,a2,false⟩].map wal)]) rfl rfl rfl rfl rfl hlen hj rfl gq λu' junk' hj'=>?_;repeat' first|refine X ?_|exact yaF|refine yaS ?_ ?_<;>intro _
   refine Go.keep [0,4] (h _ _ ⟨q6,u',ps++[([.str [116,114,101,101],.fz ([colK,⟨[117,112],1,false,zf⟩].map jf),.fz ([0].map encI),.nils,.nils,.fz ([⟨[1],[116,114,101,101],a1,a2,false⟩].map wal)],⟨[116,114,101,101],[colK,⟨[117,112],1,false,zf⟩],[0],[],[],[⟨[1],[116,114,101,101],a1,a2,false⟩]⟩)],junk',hq6,λp hp=>?_,by simp;omega,hj',by rw[List.map_append];rfl,by rw[List.map_append];rfl⟩);rcases List.mem_append.1 hp with hp|hp
   ·exact hps p hp
   rw[List.mem_singleton.1 hp];exact⟨⟨⟨_,_,_,_,rfl,.inl rfl,.inr ⟨rfl,rfl⟩,.inr ⟨rfl,rfl⟩,.inl rfl⟩⟩,⟨⟨gx,⟨gx,λx hx=>by
    simp only[List.mem_cons,List.not_mem_nil,or_false]at hx;rcases hx with rfl|rfl<;>simp[bCol,bV,colK,zf]⟩,gx,⟨gx,λx hx=>by simp at hx⟩,⟨gx,λx hx=>by simp at hx⟩,gx,λx hx=>by rw[List.mem_singleton.1 hx];simp[bFk]⟩,gx,gx⟩⟩
 clear hps hpl hj hlen hq3;clear u ps junk;rintro fr V ⟨q4,u,ps,junk,hq4,hps,hpl,hj,rfl,rfl⟩;repeat' first|refine X ?_|exact yaF|refine yaS ?_ ?_<;>intro _
 refine Go.drawn hr hq4 rfl rfl rfl (jm 40 gb gb) ?_;intro r q5 hq5 hz;obtain⟨k,hk,rfl⟩:=jbi gb hz;have hcb:bCol 12 colK/\bCol 12 colT/\bCol 12 colN:=⟨by simp[bCol,bV,colK,zf],by simp[bCol,bV,colT,zf],by simp[bCol,bV,colN,vInt]⟩;have hget:∀q:Nat,(E (Rd.go G id v code q) [(0,[jf colK,jf colT,jf colN]),(0,[war [112] (G.next+0) (.fz ([0].map encI)) x3 x4]),(u,war [112] (G.next+0) (.fz ([0].map encI)) x3 x4::ps.map Prod.fst++junk)]).get (G.next+2)=some (u,war [112] (G.next+0) (.fz ([0].map encI)) x3 x4::ps.map Prod.fst++junk):=λq=>jck (G:=Rd.go G id v code q) (k:=2) rfl;have hpos:0<(war [112] (G.next+0) (.fz ([0].map encI)) x3 x4::ps.map Prod.fst).length:=gx;by_cases h37:(k:Int)=37
 ·repeat' first|refine X ?_|((first|apply yG|apply yH|apply yI);exact rfl;(first|exact wq rfl rfl (show(0:Int)=((0:Nat):Int)from rfl) hpos (hget _) rfl rfl))|exact yaF|refine yaS ?_ ?_<;>intro _
  obtain⟨s,hs1,hs2⟩:=jcz (G:=Rd.go G id v code q5) (u:=u) (nm:=[112]) (key:=[]) (x2:=.nils) (ps:=ps) (junk:=junk) (vb:=0) (pb:=[war [112] (G.next+0) (.fz ([0].map encI)) x3 x4]) gb gb (.inr ⟨rfl,rfl⟩) hH hcb hps hpl;exact .ret rfl (.f hq5 ⟨s,hs1,rfl⟩ hs2)
 by_cases h38:(k:Int)=38
 ·repeat' first|refine X ?_|((first|apply yG|apply yH|apply yI);exact rfl;(first|exact wq rfl rfl (show(0:Int)=((0:Nat):Int)from rfl) hpos (hget _) rfl rfl))|exact yaF|refine yaS ?_ ?_<;>intro _
  obtain⟨s,hs1,hs2⟩:=jcz (G:=Rd.go G id v code q5) (u:=u) (nm:=[99]) (key:=[0]) (x2:=.fz ([0].map encI)) (ps:=ps) (junk:=junk) (vb:=0) (pb:=[war [112] (G.next+0) (.fz ([0].map encI)) x3 x4]) gb gb (.inl rfl) hH hcb hps hpl;exact .ret rfl (.f hq5 ⟨s,hs1,rfl⟩ hs2)
 by_cases h39:(k:Int)=39
 ·repeat' first|apply Go.seq|apply Go.skip|apply Go.region|apply Go.nil|apply Go.block|apply Go.blk|apply Go.segs|(apply Go.exit;exact rfl)|(apply Go.cond true;exact rfl)|(apply Go.cond false;exact rfl)|apply yB|apply yC|((first|apply yD|apply yE);(first|exact yF|assumption);iterate 6 exact rfl)|((first|apply yG|apply yH|apply yI);exact rfl;(first|exact yJ|exact yK rfl rfl|exact yL rfl|exact yM rfl|exact rfl|exact aL rfl rfl rfl rfl rfl|exact aS rfl rfl rfl rfl rfl rfl rfl))|((first|apply yN|apply yO|apply yP);exact rfl)|exact yaF|(((first|apply yT|apply yU|apply yV|apply yW);exact rfl;(first|exact .d|exact .e|exact .n|((fail_if_success exact bqt);(fail_if_success exact bqf);exact .b)))<;>intro _)
  apply Go.draw;refine Go.qr [(0,[jf colK,jf colT,jf colN]),(0,[war [112] (G.next+0) (.fz ([0].map encI)) x3 x4]),(u,war [112] (G.next+0) (.fz ([0].map encI)) x3 x4::ps.map Prod.fst++junk)] rfl ?_;repeat' first|(apply Qx.op;exact rfl;(first|exactλ_ _ _=>rfl|exact zit (k:=2) rfl rfl (show(0:Int)=((0:Nat):Int)from rfl) hpos rfl rfl rfl|exact wck rfl rfl rfl rfl rfl))
  refine Qx.drawn hr hq5 rfl rfl rfl (wkr 1 2 gb gb gb gb) ?_;rintro _ q6 hq6 ⟨n,rfl⟩;refine .nil ?_;repeat' first|refine X ?_|((first|apply yG|apply yH|apply yI);exact rfl;(first|exact wq rfl rfl (show(0:Int)=((0:Nat):Int)from rfl) (show 0<3 by decide) (jck (k:=0) rfl) rfl rfl))|exact yaF|refine yaS ?_ ?_<;>intro _
  obtain⟨s,hs1,hs2⟩:=jcz (G:=Rd.go G id v code q6) (u:=u) (nm:=[112]) (key:=[0]) (x2:=.fz ([0].map encI)) (c0:=⟨[107],n,true,zf⟩) (ps:=ps) (junk:=junk) (vb:=0) (pb:=[war [112] (G.next+0) (.fz ([0].map encI)) x3 x4]) gb gb (.inl rfl) hH ⟨by simp[bCol,bV,zf],hcb.2⟩ hps hpl;exact .ret rfl (.f hq6 ⟨s,hs1,rfl⟩ hs2)
 ·repeat' first|refine X ?_|exact yaF|refine yaS ?_ ?_<;>intro _
  obtain⟨s,hs1,hs2⟩:=jcz (G:=Rd.go G id v code q5) (u:=u) (nm:=[112]) (key:=[0]) (x2:=.fz ([0].map encI)) (ps:=ps) (junk:=junk) (vb:=0) (pb:=[war [112] (G.next+0) (.fz ([0].map encI)) x3 x4]) gb gb (.inl rfl) hH hcb hps hpl;exact .ret rfl (.f hq5 ⟨s,hs1,rfl⟩ hs2)
theorem zbn{α:Type}{p:α->Bool}:∀{l:List α} {i:Int},0<=i->idxA p l i=-1\/∃n:Nat,∃h:n<l.length,idxA p l i=i+n/\p l[n]=true
 |[],i,h=>.inl rfl
 |a::r,i,h=>by
  simp only[idxA];split
  ·exact .inr ⟨0,gx,gx,by assumption⟩
  ·rcases zbn (p:=p) (l:=r) (i:=i+1) O with h1|⟨n,hn,h1,h2⟩
   ·exact .inl h1
   ·exact .inr ⟨n+1,by simpa using hn,O,by simpa using h2⟩
theorem jh5(t:wc)(s:List UInt8):Pure Tryz.prog 133 [.agg (ja t),.c (.fp [.str s])] (.c (.bool (t.name==s))):=by
 refine yaq [2] jee λG=>?_;repeat' first|refine X ?_|exact yaF|refine yaS ?_ ?_<;>intro _
 all_goals refine .ret rfl (.bool ?_)
 all_goals simp_all
theorem jae(l:List wc)(s:List UInt8)(hx:l.length<=34359738368):Pure Tryz.prog 48 [.c (.fz (l.map ja)),.c (.str s)] (.c (.int .i64 (idxA (λt=>t.name==s) l 0))):=by
 refine yaq [3] zfo λG=>?_;repeat' first|refine X ?_|((first|apply yQ|apply yR|apply yS);(iterate 3 exact rfl);exact wbf mixed jan ja (λt=>.agg (ja t)) (λ_=>rfl) (λ_=>rfl) l (λt=>t.name==s) _ [] [.fp [.str s]] hx (λj hj _=>jh5 _ _))|exact yaF|refine yaS ?_ ?_<;>intro _
 exact .ret rfl (.int rfl)
def zc9(t:wc)(c:Int):Int:=match t.cols[c.toNat]? with|some x=>x.kind|none=>0
def zbf(u t:wc):List Int->List Int->Bool
 |a::r,c::q=>zc9 u a==zc9 t c&&zbf u t r q
 |_,_=>true
def wgo(u t:wc)(f:Fk):Bool:=decide (u.key.length=f.cols.length)&&zbf u t u.key f.cols
def metF(s:List wc)(t:wc)(f:Fk):Bool:=s.any (λu=>u.name==f.table)&&(match s[(idxA (λu=>u.name==f.table) s 0).toNat]? with|some u=>wgo u t f|none=>false)
variable {t:wc}{c:Int}
theorem zbc(h:c=n)(hn:n<t.cols.length):zc9 t c=t.cols[n].kind:=by
 simp[zc9,h,hn]
variable {s:List wc}{f:Fk}
theorem wh5(h:idxA (λu=>u.name==f.table) s 0=-1):metF s t f=false:=by
 have:=jbl (p:=λu:wc=>u.name==f.table) (l:=s);rw[h]at this;rw[metF,<-this]
 rfl
theorem zgp(h:idxA (λu=>u.name==f.table) s 0=n)(hn:n<s.length):metF s t f=wgo s[n] t f:=by
 have:=jbl (p:=λu:wc=>u.name==f.table) (l:=s);rw[h]at this;rw[metF,<-this,h,decide_eq_true O];simp[hn]
theorem zkd(s:List wc)(t:wc)(f:Fk)(hx:s.length<=34359738368)(hs:∀u∈s,u.key.length<=34359738368/\∀c∈u.key,0<=c/\c<u.cols.length)(hf0:f.cols.length<=34359738368)(hf:∀c∈f.cols,0<=c/\c<t.cols.length):Pure Tryz.prog 274 [.c (.fz (s.map ja)),.agg (ja t),.agg (wal f)] (.c (.bool (metF s t f))):=by
 refine yaq [4,5] zg7 λG=>?_;repeat' first|refine X ?_|fail
 refine .pcall rfl rfl rfl (jae s f.table hx) ?_;rcases zbn (p:=λu:wc=>u.name==f.table) (l:=s) (i:=0) (yaz _)with hq|⟨n,hn,hq,hp⟩
 ·have hm:=wh5 (t:=t) hq;rw[hq];repeat' first|refine X ?_|exact yaF|refine yaS ?_ ?_<;>intro _
  exact .ret rfl (.bool hm.symm)
 rw[Int.zero_add]at hq;have hm:=zgp (t:=t) hq hn;have hsn:=hs _ (yaa hn);rw[hq];have hnz:¬((n:Int)<0):=O;repeat' first|refine X ?_|((first|apply yG|apply yH|apply yI);exact rfl;(first|exact yax ja rfl hn))|exact yaF|refine yaS ?_ ?_<;>intro _
 ·refine .ret rfl (.bool ?_);rename_i h;rw[hm,wgo,decide_eq_false O]
  rfl
 rename_i hlen
 refine Go.keep [0,4,7,29,30,31] (Go.loops (I:=λm fr V=>∃i:Nat,∃k:Int,m=f.cols.length-i/\i<=f.cols.length/\k=i/\zbf s[n] t s[n].key f.cols=zbf s[n] t (s[n].key.drop i) (f.cols.drop i)/\
  fr=[(0,.c (.fz (s.map ja))),(4,.c (.fp (ja t))),(7,.c (.int .i64 (n:Int))),(29,.c (.fz (f.cols.map encI))),(30,.c (.int .i64 (f.cols.length:Int))),(31,.c (.int .i64 k))]/\V=E G []) ?_ _ _ _ ⟨0,_,rfl,yac _,rfl,rfl,rfl,rfl⟩)
 rintro m fr V ⟨i,k,rfl,hi,hk,hsl,rfl,rfl⟩ hrec;by_cases hlt:i<f.cols.length
 ·have hlt2:i<s[n].key.length:=O;have h1:=hsn.2 _ (yaa hlt2);have h2:=hf _ (yaa hlt);obtain⟨a,ha⟩:∃a:Nat,s[n].key[i]=a:=⟨s[n].key[i].toNat,O⟩;obtain⟨c,hc⟩:∃c:Nat,f.cols[i]=c:=⟨f.cols[i].toNat,O⟩;have ha2:a<s[n].cols.length:=O;have hc2:c<t.cols.length:=O;have e1:=zbc ha ha2;have e2:=zbc hc hc2;have hstep:zbf s[n] t s[n].key f.cols=(s[n].cols[a].kind==t.cols[c].kind&&zbf s[n] t (s[n].key.drop (i+1)) (f.cols.drop (i+1))):=by
   rw[hsl,yab hlt,yab hlt2,zbf,e1,e2]
  repeat' first|refine X ?_|((first|apply yG|apply yH|apply yI);exact rfl;(first|exact yax encI hk hlt|exact yax ja rfl hn|exact yax encI hk hlt2|exact yax jf ha ha2|exact yax jf hc hc2))|exact yaF|refine yaS ?_ ?_<;>intro _
  ·refine .ret rfl (.bool ?_);rename_i h;rw[hm,wgo,hstep,beq_eq_false_iff_ne.2 h];simp
  ·rename_i h;refine Go.keep [0,4,7,29,30,31] (hrec _ _ _ O ⟨i+1,_,rfl,hlt,wb hk O, ?_,rfl,rfl⟩);rw[hstep,h];simp
 ·repeat' first|refine X ?_|exact yaF|refine yaS ?_ ?_<;>intro _
  refine .ret rfl (.bool ?_);rw[hm,wgo,hsl,yad O,decide_eq_true O]
  cases s[n].key.drop i<;>rfl
def z1:List wc->List wc->Bool
 |_,[]=>true
 |pre,t::r=>waj t&& !(pre.any λu=>u.name==t.name)&&z1 (pre++[t]) r
def wl(s:List wc):Bool:=decide ((s.length:Int)<=5)&&(z1 [] s&& !(s.any λt=>t.fks.any λf=> !metF s t f))
theorem ja6:∀{l pre:List wc},z1 pre l=true->∀t∈l,waj t=true
 |[],_,_,t,h=>by simp at h
 |a::r,pre,h,t,ht=>by
  simp only[z1,Bool.and_eq_true]at h;rcases List.mem_cons.1 ht with rfl|ht
  ·exact h.1.1
  ·exact ja6 h.2 t ht
theorem wf2(h:waj t=true):∀c∈t.key,0<=c/\c<t.cols.length:=jca (jx.1 h).2.2.1
theorem zhf(h:waj t=true){f:Fk}(hf:f∈t.fks):∀c∈f.cols,0<=c/\c<t.cols.length:=by
 have h1:=(jx.1 h).2.2.2.2.2.2.2.2.2.2;rw[ybs]at h1;have:=h1 f hf;simp only[Bool.not_eq_true',Bool.not_eq_false,wcp,Bool.and_eq_true]at this;exact jca this.1
theorem jgp(s:List wc)(t:wc)(f:Fk)(hx:s.length<=34359738368)(hs:∀u∈s,u.key.length<=34359738368/\∀c∈u.key,0<=c/\c<u.cols.length)(hf0:f.cols.length<=34359738368)(hf:∀c∈f.cols,0<=c/\c<t.cols.length):Pure Tryz.prog 273 [.agg (wal f),.c (.fp [.fz (s.map ja)]),.c (.fp (ja t))] (.c (.bool (!metF s t f))):=by
 refine yaq [3] wdd λG=>?_;repeat' first|refine X ?_|refine yaC (zkd s t f hx hs hf0 hf) ?_|exact yaF|refine yaS ?_ ?_<;>intro _
 exact .ret rfl (.bool rfl)
theorem jhf(s:List wc)(t:wc)(hx:s.length<=34359738368)(hs:∀u∈s,u.key.length<=34359738368/\∀c∈u.key,0<=c/\c<u.cols.length)(hb:wad 34359738368 t)(hf:∀f∈t.fks,∀c∈f.cols,0<=c/\c<t.cols.length):Pure Tryz.prog 271 [.agg (ja t),.c (.fp [.fz (s.map ja)])] (.c (.bool (t.fks.any λf=> !metF s t f))):=by
 refine yaq [2] jdz λG=>?_;have b6:=hb.2.2.2.2.2;repeat' first|refine X ?_|((first|apply yQ|apply yR|apply yS);(iterate 3 exact rfl);exact wi mixed w7 jad wal (λu=>.agg (wal u)) (λ_=>rfl) (λ_=>rfl) t.fks (λf=> !metF s t f) _ [] [.fp [.fz (s.map ja)],.fp (ja t)] b6.1 (λj hj _=>jgp s t _ hx hs (b6.2 _ (yaa hj)).1 (hf _ (yaa hj))))|exact yaF|refine yaS ?_ ?_<;>intro _
 exact .ret rfl (.bool rfl)
theorem zea{l:List wc}:∀e∈l.map ja,e.length=6:=λe he=>by
 obtain⟨t,_,rfl⟩:=List.mem_map.1 he
 rfl
theorem zcb(s:List wc)(hx:s.length<=34359738368)(hb:∀t∈s,wad 34359738368 t):Pure Tryz.prog 175 [.c (.fz (s.map ja))] (.c (.bool (wl s))):=by
 refine yaq [1] wey λG=>?_;repeat' first|refine X ?_|exact yaF|refine yaS ?_ ?_<;>intro _
 ·refine .ret rfl (.bool ?_);rw[wl,decide_eq_false O]
  rfl
 rename_i h5
 refine Go.keep [1,8,9,10] (Go.loops (I:=λm fr V=>∃i:Nat,∃k:Int,m=s.length-i/\i<=s.length/\k=i/\z1 [] s=z1 (s.take i) (s.drop i)/\
  fr=[(1,.c (.fp [.fz (s.map ja)])),(8,.c (.fz (s.map ja))),(9,.c (.int .i64 (s.length:Int))),(10,.c (.int .i64 k))]/\V=E G []) ?_ _ _ _ ⟨0,_,rfl,yac _,rfl,rfl,rfl,rfl⟩)
 rintro m fr V ⟨i,k,rfl,hi,hk,hsl,rfl,rfl⟩ hrec;by_cases hlt:i<s.length
 ·have hd:=yab hlt;have htk:(s.map ja).take i=(s.take i).map ja:=List.map_take.symm;have hstep:z1 [] s=(waj s[i]&& !((s.take i).any λd=>d.name==s[i].name)&&z1 (s.take (i+1)) (s.drop (i+1))):=by
   rw[hsl,hd,z1,yaj hlt]
  have neg:(waj s[i]=false\/((s.take i).any λd=>d.name==s[i].name)=true)->wl s=false:=by
   rintro(h|h)
   ·rw[wl,hstep,h];simp
   ·rw[wl,hstep,h];simp
  have hany:=jbl (p:=λd:wc=>d.name==s[i].name) (l:=s.take i);repeat' first|refine X ?_|((first|apply yG|apply yH|apply yI);exact rfl;(first|exact yax ja hk hlt|exact waw (n:=i) rfl rfl hk gq zea))|((first|apply Go.pcallB|apply Go.spcallB|apply Qg.pcallB);(iterate 3 exact rfl);exact jiw s[i] (hb _ (yaa hlt));intro _ _)|exact yaF|refine yaS ?_ ?_<;>intro _
  ·rename_i c p q;exact .ret rfl (.bool (neg (.inl (nbT p q))).symm)
  rename_i c p q;rw[htk];repeat' first|refine X ?_|((first|apply Go.pcallI|apply Go.spcallI|apply Qg.pcallI);(iterate 3 exact rfl);exact jae (s.take i) s[i].name gq;intro _ _)|exact yaF|refine yaS ?_ ?_<;>intro _
  ·rename_i z hz hz2;refine .ret rfl (.bool (neg (.inr ?_)).symm);rw[<-hany,hz];simpa using hz2
  ·rename_i z hz hz2;refine Go.keep [1,8,9,10] (hrec _ _ _ O ⟨i+1,_,rfl,hlt,wb hk O, ?_,rfl,rfl⟩);rw[hstep,nbF p q,<-hany,hz,decide_eq_false O]
   rfl
 have hfin:z1 [] s=true:=by
  rw[hsl,yad O]
  rfl
 have hok:=ja6 hfin;clear hrec hsl;repeat' first|refine X ?_|((first|apply yQ|apply yR|apply yS);(iterate 3 exact rfl);exact wi mixed jba jan ja (λu=>.agg (ja u)) (λ_=>rfl) (λ_=>rfl) s (λt=>t.fks.any λf=> !metF s t f) _ [] [.fp [.fz (s.map ja)]] hx (λj hj _=>jhf s _ hx (λu hu=>⟨(hb u hu).2.2.1,wf2 (hok u hu)⟩) (hb _ (yaa hj)) (λf hf=>zhf (hok _ (yaa hj)) hf)))|exact yaF|refine yaS ?_ ?_<;>intro _
 refine .ret rfl (.bool ?_);rw[wl,hfin,decide_eq_true O]
 rfl
theorem zh6(h:wl s=true->False):wl s=false:=by
 cases c:wl s
 ·rfl
 ·exact(h c).elim
theorem jcb:wl s=true↔(s.length:Int)<=5/\z1 [] s=true/\(s.any λt=>t.fks.any λf=> !metF s t f)=false:=by
 simp only[wl,Bool.and_eq_true,decide_eq_true_eq,Bool.not_eq_true']
theorem zcs(s:List wc)(hx:s.length<=34359738368)(hb:∀t∈s,wad 34359738368 t):Pure Tryz.prog 157 [.c (.fz (s.map ja))] (.c (.bool (wl s))):=by
 refine yaq [] jey λG=>?_;repeat' first|refine X ?_|exact yaF|refine yaS ?_ ?_<;>intro _
 refine Go.keep [0,3] (Go.loops (I:=λm fr V=>∃i:Nat,∃k:Int,m=s.length-i/\i<=s.length/\k=i/\z1 [] s=z1 (s.take i) (s.drop i)/\
  fr=[(0,.c (.fz (s.map ja))),(3,.c (.int .i64 k))]/\V=E G []) ?_ _ _ _ ⟨0,_,rfl,yac _,rfl,rfl,rfl,rfl⟩)
 rintro m fr V ⟨i,k,rfl,hi,hk,hsl,rfl,rfl⟩ hrec;by_cases hlt:i<s.length
 ·have hd:=yab hlt;have htk:(s.map ja).take i=(s.take i).map ja:=List.map_take.symm;have hstep:z1 [] s=(waj s[i]&& !((s.take i).any λd=>d.name==s[i].name)&&z1 (s.take (i+1)) (s.drop (i+1))):=by
   rw[hsl,hd,z1,yaj hlt]
  have neg:(waj s[i]=false\/((s.take i).any λd=>d.name==s[i].name)=true)->wl s=false:=by
   rintro(h|h)
   ·rw[wl,hstep,h];simp
   ·rw[wl,hstep,h];simp
  have hany:=jbl (p:=λd:wc=>d.name==s[i].name) (l:=s.take i);repeat' first|refine X ?_|((first|apply yG|apply yH|apply yI);exact rfl;(first|exact yax ja hk hlt|exact waw (n:=i) rfl rfl hk gq zea))|((first|apply Go.pcallB|apply Go.spcallB|apply Qg.pcallB);(iterate 3 exact rfl);exact jh3 s[i] (hb _ (yaa hlt));intro _ _)|exact yaF|refine yaS ?_ ?_<;>intro _
  ·rename_i c p q;exact .ret rfl (.bool (neg (.inl (nbT p q))).symm)
  rename_i c p q;rw[htk];repeat' first|refine X ?_|((first|apply Go.pcallI|apply Go.spcallI|apply Qg.pcallI);(iterate 3 exact rfl);exact zcq (s.take i) s[i].name gq;intro _ _)|exact yaF|refine yaS ?_ ?_<;>intro _
  ·rename_i z hz hz2;refine .ret rfl (.bool (neg (.inr ?_)).symm);rw[<-hany,hz];simpa using hz2
  ·rename_i z hz hz2;refine Go.keep [0,3] (hrec _ _ _ O ⟨i+1,_,rfl,hlt,wb hk O, ?_,rfl,rfl⟩);rw[hstep,nbF p q,<-hany,hz,decide_eq_false O]
   rfl
 have hfin:z1 [] s=true:=by
  rw[hsl,yad O]
  rfl
 have hok:=ja6 hfin;clear hrec hsl;repeat' first|refine X ?_|exact yaF|refine yaS ?_ ?_<;>intro _
 clear hlt hk hi
 -- the references
 refine Go.keep [0,4] (Go.loops (I:=λm fr V=>∃i:Nat,∃k:Int,m=s.length-i/\i<=s.length/\k=i/\(∀j (hj:j<s.length),j<i->(!(s[j].fks.any λf=> !metF s s[j] f))=true)/\
  fr=[(0,.c (.fz (s.map ja))),(4,.c (.int .i64 k))]/\V=E G []) ?_ _ _ _ ⟨0,_,rfl,yac _,rfl,λj _ h=>absurd h O,rfl,rfl⟩)
 rintro m fr V ⟨i,k,rfl,hi,hk,hall,rfl,rfl⟩ hrec;by_cases hlt:i<s.length
 ·have hmem:=yaa hlt;have hti:=hok _ hmem;have b6:=(hb _ hmem).2.2.2.2.2;repeat' first|refine X ?_|exact yaF|refine yaS ?_ ?_<;>intro _
  refine Go.keep [0,4,5] (Go.loops (I:=λm fr V=>∃i2:Nat,∃k2:Int,m=s[i].fks.length-i2/\i2<=s[i].fks.length/\k2=i2/\(∀j (hj:j<s[i].fks.length),j<i2->metF s s[i] s[i].fks[j]=true)/\
   fr=[(0,.c (.fz (s.map ja))),(4,.c (.int .i64 k)),(5,.c (.int .i64 k2))]/\V=E G []) ?_ _ _ _ ⟨0,_,rfl,yac _,rfl,λj _ h=>absurd h O,rfl,rfl⟩)
  rintro m fr V ⟨i2,k2,rfl,hi2,hk2,hall2,rfl,rfl⟩ hrec2;by_cases hlt2:i2<s[i].fks.length
  ·have hfm:=yaa hlt2;have hf:=zhf hti hfm;have hf0:=(b6.2 _ hfm).1;have neg:metF s s[i] s[i].fks[i2]=false->wl s=false:=λh=>zh6 λhh=>by
    have h2:=(jcb.1 hh).2.2;rw[ybs]at h2;exact h2 _ hmem (List.any_eq_true.2 ⟨_,hfm,by rw[h];rfl⟩)
   repeat' first|refine X ?_|((first|apply yG|apply yH|apply yI);exact rfl;(first|exact yax ja hk hlt|exact yax wal hk2 hlt2))|exact yaF|refine yaS ?_ ?_<;>intro _
   refine .pcall rfl rfl rfl (zcq s s[i].fks[i2].table hx) ?_;rcases zbn (p:=λu:wc=>u.name==s[i].fks[i2].table) (l:=s) (i:=0) (yaz _)with hq|⟨n,hn,hq,hp⟩
   ·have hm:=wh5 (t:=s[i]) hq;rw[hq];repeat' first|refine X ?_|exact yaF|refine yaS ?_ ?_<;>intro _
    exact .ret rfl (.bool (neg hm).symm)
   rw[Int.zero_add]at hq;have hm:=zgp (t:=s[i]) hq hn;have hsk:=wf2 (hok _ (yaa hn));rw[hq];have hnz:¬((n:Int)<0):=O;repeat' first|refine X ?_|((first|apply yG|apply yH|apply yI);exact rfl;(first|exact yax ja rfl hn))|exact yaF|refine yaS ?_ ?_<;>intro _
   ·rename_i h;refine .ret rfl (.bool (neg ?_).symm);rw[hm,wgo,decide_eq_false O]
    rfl
   rename_i hlen
   refine Go.keep [0,4,5,6,7,8] (Go.loops (I:=λm fr V=>∃i3:Nat,∃k3:Int,m=s[i].fks[i2].cols.length-i3/\i3<=s[i].fks[i2].cols.length/\k3=i3/\zbf s[n] s[i] s[n].key s[i].fks[i2].cols=zbf s[n] s[i] (s[n].key.drop i3) (s[i].fks[i2].cols.drop i3)/\
    fr=[(0,.c (.fz (s.map ja))),(4,.c (.int .i64 k)),(5,.c (.int .i64 k2)),(6,.c (.fp (wal s[i].fks[i2]))),(7,.c (.int .i64 (n:Int))),(8,.c (.int .i64 k3))]/\V=E G []) ?_ _ _ _ ⟨0,_,rfl,yac _,rfl,rfl,rfl,rfl⟩)
   rintro m fr V ⟨i3,k3,rfl,hi3,hk3,hsl,rfl,rfl⟩ hrec3;by_cases hlt3:i3<s[i].fks[i2].cols.length
   ·have hlt4:i3<s[n].key.length:=O;have h1:=hsk _ (yaa hlt4);have h2:=hf _ (yaa hlt3);obtain⟨a,ha⟩:∃a:Nat,s[n].key[i3]=a:=⟨s[n].key[i3].toNat,O⟩;obtain⟨c,hc⟩:∃c:Nat,s[i].fks[i2].cols[i3]=c:=⟨s[i].fks[i2].cols[i3].toNat,O⟩;have ha2:a<s[n].cols.length:=O;have hc2:c<s[i].cols.length:=O;have e1:=zbc ha ha2;have e2:=zbc hc hc2;have hstep:zbf s[n] s[i] s[n].key s[i].fks[i2].cols=(s[n].cols[a].kind==s[i].cols[c].kind&&zbf s[n] s[i] (s[n].key.drop (i3+1)) (s[i].fks[i2].cols.drop (i3+1))):=by
     rw[hsl,yab hlt3,yab hlt4,zbf,e1,e2]
    repeat' first|refine X ?_|((first|apply yG|apply yH|apply yI);exact rfl;(first|exact yax ja hk hlt|exact yax encI hk3 hlt3|exact yax ja rfl hn|exact yax encI hk3 hlt4|exact yax jf ha ha2|exact yax jf hc hc2))|exact yaF|refine yaS ?_ ?_<;>intro _
    ·rename_i h;refine .ret rfl (.bool (neg ?_).symm);rw[hm,wgo,hstep,beq_eq_false_iff_ne.2 λe=>h e.symm];simp
    ·rename_i h;refine Go.keep [0,4,5,6,7,8] (hrec3 _ _ _ O ⟨i3+1,_,rfl,hlt3,wb hk3 O, ?_,rfl,rfl⟩);rw[hstep,h];simp
   ·have hmt:metF s s[i] s[i].fks[i2]=true:=by
     rw[hm,wgo,hsl,yad O,decide_eq_true O]
     cases s[n].key.drop i3<;>rfl
    clear hrec3;repeat' first|refine X ?_|exact yaF|refine yaS ?_ ?_<;>intro _
    exact Go.keep [0,4,5] (hrec2 _ _ _ O ⟨i2+1,_,rfl,hlt2,wb hk2 O,upto (p:=λf=>metF s s[i] f) hall2 hlt2 hmt,rfl,rfl⟩)
  ·have hany:=wbh (p:=λf=>metF s s[i] f) (l:=s[i].fks) λj hj=>hall2 j hj O;clear hrec2;repeat' first|refine X ?_|((first|apply yG|apply yH|apply yI);exact rfl;(first|exact yax ja hk hlt))|exact yaF|refine yaS ?_ ?_<;>intro _
   exact Go.keep [0,4] (hrec _ _ _ O ⟨i+1,_,rfl,hlt,wb hk O,upto (p:=λt:wc=> !(t.fks.any λf=> !metF s t f)) hall hlt (by rw[hany];rfl),rfl,rfl⟩)
 ·have hany:=wbh (p:=λt:wc=> !(t.fks.any λf=> !metF s t f)) (l:=s) λj hj=>hall j hj O;clear hrec;repeat' first|refine X ?_|exact yaF|refine yaS ?_ ?_<;>intro _
  refine .ret rfl (.bool ?_);simp only[Bool.not_not]at hany;rw[wl,hfin,hany];simp
def whf(s:List wc)(nm:List UInt8):Option wc:=if s.any (λu=>u.name==nm)then s[(idxA (λu=>u.name==nm) s 0).toNat]? else none
theorem jbv(h:idxA (λu=>u.name==nm) s 0=-1):whf s nm=none:=by
 have:=jbl (p:=λu:wc=>u.name==nm) (l:=s);rw[h]at this;rw[whf,<-this]
 rfl
theorem za0(h:idxA (λu=>u.name==nm) s 0=n)(hn:n<s.length):whf s nm=some s[n]:=by
 have:=jbl (p:=λu:wc=>u.name==nm) (l:=s);rw[h]at this;rw[whf,<-this,h,decide_eq_true O];simp[hn]
theorem zax(h:wl s=true):∀t∈s,1<=t.cols.length/\t.cols.length<=8:=λt ht=>by
 have:=(jx.1 (ja6 (jcb.1 h).2.1 t ht)).2.1;simp only[isIn,Bool.and_eq_true,decide_eq_true_eq]at this;omega
def zf3(l:List Term)(n:Int):Bool:= !(l.any λx=> !jao x.expr n)
def jbn(e:List Tok)(n:Int):Bool:=(e.length:Int)==0||jao e n
theorem zhg(x:Term)(n:Int)(hb:wkz 34359738368 x)(h0:0<=n)(h1:n<=16):Pure Tryz.prog 342 [.agg (zt x),.c (.fp [.int .i64 n])] (.c (.bool (!jao x.expr n))):=by
 refine yaq [2] wd0 λG=>?_;have hc:=jcp x.expr n hb.1;rw[wdp h0 h1]at hc;repeat' first|refine X ?_|refine yaC (hc) ?_|exact yaF|refine yaS ?_ ?_<;>intro _
 exact .ret rfl (.bool rfl)
theorem jh6(l:List Term)(n:Int)(hx:l.length<=34359738368)(hb:∀x∈l,wkz 34359738368 x)(h0:0<=n)(h1:n<=16):Pure Tryz.prog 278 [.c (.fz (l.map zt)),.c (.int .i64 n)] (.c (.bool (zf3 l n))):=by
 refine yaq [3] ze2 λG=>?_;repeat' first|refine X ?_|((first|apply yQ|apply yR|apply yS);(iterate 3 exact rfl);exact wi mixed wbd jbr zt (λu=>.agg (zt u)) (λ_=>rfl) (λ_=>rfl) l (λx=> !jao x.expr n) _ [] [.fp [.int .i64 n]] hx (λj hj _=>zhg _ _ (hb _ (yaa hj)) h0 h1))|exact yaF|refine yaS ?_ ?_<;>intro _
 exact .ret rfl (.bool rfl)
theorem jf3(e:List Tok)(n:Int)(hx:e.length<=34359738368)(h0:0<=n)(h1:n<=16):Pure Tryz.prog 142 [.c (.fz (e.map zi)),.c (.int .i64 n)] (.c (.bool (jbn e n))):=by
 refine yaq [] zfp λG=>?_;have hc:=jcp e n hx;rw[wdp h0 h1]at hc;repeat' first|refine X ?_|((first|apply Go.pcallB|apply Go.spcallB|apply Qg.pcallB);(iterate 3 exact rfl);exact hc;intro _ _)|exact yaF|refine yaS ?_ ?_<;>intro _
 all_goals refine .ret rfl (.bool ?_)
 ·rename_i h;rw[jbn,h]
  rfl
 ·rename_i h b hb;rw[jbn,hb,beq_eq_false_iff_ne.2 h]
  rfl
def jc9(t:wc):Nat->List Val->Bool
 |_,[]=>true
 |i,v::r=>ze8 v (zc9 t i)&&jc9 t (i+1) r
def fitF(t:wc)(vals:List Val):Bool:=decide ((vals.length:Int)=t.cols.length)&&jc9 t 0 vals
theorem jik(t:wc)(vals:List Val)(hx:vals.length<=34359738368):Pure Tryz.prog 135 [.agg (ja t),.c (.fz (vals.map encV))] (.c (.bool (fitF t vals))):=by
 refine yaq [2] wit λG=>?_;repeat' first|refine X ?_|exact yaF|refine yaS ?_ ?_<;>intro _
 ·rename_i h;refine .ret rfl (.bool ?_);rw[fitF,decide_eq_false h]
  rfl
 rename_i hlen;have hlen:(vals.length:Int)=t.cols.length:=O
 refine Go.keep [2,13,14,15] (Go.loops (I:=λm fr V=>∃i:Nat,∃k:Int,m=vals.length-i/\i<=vals.length/\k=i/\jc9 t 0 vals=jc9 t i (vals.drop i)/\
  fr=[(2,.c (.fp (ja t))),(13,.c (.fz (vals.map encV))),(14,.c (.int .i64 (vals.length:Int))),(15,.c (.int .i64 k))]/\V=E G []) ?_ _ _ _ ⟨0,_,rfl,yac _,rfl,rfl,rfl,rfl⟩)
 rintro m fr V ⟨i,k,rfl,hi,hk,hsl,rfl,rfl⟩ hrec;by_cases hlt:i<vals.length
 ·have hd:=yab hlt;have hlc:i<t.cols.length:=O;have hka:zc9 t i=t.cols[i].kind:=zbc rfl hlc;rw[hd,jc9,hka]at hsl;repeat' first|refine X ?_|((first|apply yG|apply yH|apply yI);exact rfl;(first|exact yax encV hk hlt|exact yax jf hk hlc))|((first|apply Go.pcallB|apply Go.spcallB|apply Qg.pcallB);(iterate 3 exact rfl);exact wh0 vals[i] t.cols[i].kind;intro _ _)|exact yaF|refine yaS ?_ ?_<;>intro _
  ·rename_i b p k4;refine .ret rfl (.bool ?_);rw[fitF,hsl,nbT p k4];simp
  ·rename_i b p k4;refine Go.keep [2,13,14,15] (hrec _ _ _ O ⟨i+1,_,rfl,hlt,wb hk O, ?_,rfl,rfl⟩);rw[hsl,nbF p k4]
   rfl
 ·repeat' first|refine X ?_|exact yaF|refine yaS ?_ ?_<;>intro _
  refine .ret rfl (.bool ?_);rw[fitF,hsl,yad O,decide_eq_true hlen]
  rfl
theorem zb4(t:wc)(vals:List Val)(hx:vals.length<=34359738368):Pure Tryz.prog 160 [.agg (ja t),.c (.fz (vals.map encV))] (.c (.bool (fitF t vals))):=by
 refine yaq [2] jfp λG=>?_;repeat' first|refine X ?_|exact yaF|refine yaS ?_ ?_<;>intro _
 ·rename_i h;refine .ret rfl (.bool ?_);rw[fitF,decide_eq_false h]
  rfl
 rename_i hlen;have hlen:(vals.length:Int)=t.cols.length:=O
 refine Go.keep [1,2,5] (Go.loops (I:=λm fr V=>∃i:Nat,∃k:Int,m=vals.length-i/\i<=vals.length/\k=i/\jc9 t 0 vals=jc9 t i (vals.drop i)/\
  fr=[(1,.c (.fz (vals.map encV))),(2,.c (.fp (ja t))),(5,.c (.int .i64 k))]/\V=E G []) ?_ _ _ _ ⟨0,_,rfl,yac _,rfl,rfl,rfl,rfl⟩)
 rintro m fr V ⟨i,k,rfl,hi,hk,hsl,rfl,rfl⟩ hrec;by_cases hlt:i<vals.length
 ·have hd:=yab hlt;have hlc:i<t.cols.length:=O;have hka:zc9 t i=t.cols[i].kind:=zbc rfl hlc;rw[hd,jc9,hka]at hsl;repeat' first|refine X ?_|((first|apply yG|apply yH|apply yI);exact rfl;(first|exact yax encV hk hlt|exact yax jf hk hlc))|((first|apply Go.pcallB|apply Go.spcallB|apply Qg.pcallB);(iterate 3 exact rfl);exact wah vals[i];intro _ _)|exact yaF|refine yaS ?_ ?_<;>intro _
  all_goals first
   |(refine .ret rfl (.bool ?_);rw[fitF,hsl,ze8];clear hrec hsl;simp_all;done)
   |(refine Go.keep [1,2,5] (hrec _ _ _ O ⟨i+1,_,rfl,hlt,wb hk O, ?_,rfl,rfl⟩);rw[hsl,ze8];clear hrec hsl;simp_all;done)
 ·repeat' first|refine X ?_|exact yaF|refine yaS ?_ ?_<;>intro _
  refine .ret rfl (.bool ?_);rw[fitF,hsl,yad O,decide_eq_true hlen]
  rfl
def jcs(n:Int)(x:SetS):Bool:=isIn x.col 0 (n-1)&&jao x.expr n
def ja0(n:Int):List SetS->List SetS->Bool
 |_,[]=>true
 |pre,x::r=>jcs n x&& !(pre.any λy=>y.col==x.col)&&ja0 n (pre++[x]) r
def zfw(l:List SetS)(n:Int):Bool:=ja0 n [] l
theorem wh6(y x:SetS):Pure Tryz.prog 276 [.agg (ju y),.c (.fp (ju x))] (.c (.bool (y.col==x.col))):=by
 refine yaq [2] wei λG=>?_;repeat' first|refine X ?_|exact yaF|refine yaS ?_ ?_<;>intro _
 all_goals refine .ret rfl (.bool ?_)
 all_goals simp_all
theorem zks{n:Int}(h0:0<=n)(h1:n<=16):IntKind.i64.wrap (n-1)=n-1:=zk O O
theorem wix(l:List SetS)(n:Int)(hx:l.length<=34359738368)(hb:∀x∈l,wlf 34359738368 x)(h0:0<=n)(h1:n<=16):Pure Tryz.prog 181 [.c (.fz (l.map ju)),.c (.int .i64 n)] (.c (.bool (zfw l n))):=by
 refine yaq [] jfq λG=>?_;have hw:=zks h0 h1;repeat' first|refine X ?_|exact yaF|refine yaS ?_ ?_<;>intro _
 refine Go.keep [0,1,7,8,9] (Go.loops (I:=λm fr V=>∃i:Nat,∃k:Int,m=l.length-i/\i<=l.length/\k=i/\ja0 n [] l=ja0 n (l.take i) (l.drop i)/\
  fr=[(0,.c (.fz (l.map ju))),(1,.c (.int .i64 n)),(7,.c (.fz (l.map ju))),(8,.c (.int .i64 (l.length:Int))),(9,.c (.int .i64 k))]/\V=E G []) ?_ _ _ _ ⟨0,_,rfl,yac _,rfl,rfl,rfl,rfl⟩)
 rintro m fr V ⟨i,k,rfl,hi,hk,hsl,rfl,rfl⟩ hrec;by_cases hlt:i<l.length
 ·have hd:=yab hlt;have hbc:=hb _ (yaa hlt);have htk:(l.map ju).take i=(l.take i).map ju:=List.map_take.symm;have hstep:ja0 n [] l=(jcs n l[i]&& !((l.take i).any λy=>y.col==l[i].col)&&ja0 n (l.take (i+1)) (l.drop (i+1))):=by
   rw[hsl,hd,ja0,yaj hlt]
  have hex:=jcp l[i].expr n hbc.1;rw[wdp h0 h1]at hex;repeat' first|refine X ?_|((first|apply yG|apply yH|apply yI);exact rfl;(first|exact yax ju hk hlt))|((first|apply Go.pcallB|apply Go.spcallB|apply Qg.pcallB);(iterate 3 exact rfl);(first|exact jem _ _ _|exact hex);intro _ _)|exact yaF|refine yaS ?_ ?_<;>intro _
  all_goals try(refine .ret rfl (.bool ?_);rw[zfw,hstep,jcs,<-hw];clear hrec hsl hstep hex;simp_all;done)
  all_goals have hcol:jcs n l[i]=true:=(by rw[jcs,<-hw];clear hrec hsl hstep hex;simp_all)
  all_goals refine .op rfl (waw (n:=i) rfl rfl hk gq (λe he=>by obtain⟨c,_,rfl⟩:=List.mem_map.1 he;rfl)) ?_
  all_goals rw[htk]
  all_goals(repeat' first|(apply yA;exact rfl)|apply yB|apply yC|((first|apply yD|apply yE);(first|exact yF|assumption);iterate 6 exact rfl)|((first|apply yG|apply yH|apply yI);exact rfl;(first|exact yJ|exact yK rfl rfl|exact yL rfl|exact yM rfl|exact rfl|exact aL rfl rfl rfl rfl rfl|exact aS rfl rfl rfl rfl rfl rfl rfl))|((first|apply yN|apply yO|apply yP);exact rfl)|((first|apply Go.pcallB|apply Go.spcallB|apply Qg.pcallB);(iterate 3 exact rfl);exact wi mixed jbg zby ju (λc=>.agg (ju c)) (λ_=>rfl) (λ_=>rfl) (l.take i) (λd=>d.col==l[i].col) _ [] [.fp (ju l[i])] (by simp;omega) (λj hj _=>wh6 _ _);intro _ _)|exact yaF|(((first|apply yT|apply yU|apply yV|apply yW);exact rfl;(first|exact .d|exact .e|exact .n|((fail_if_success exact bqt);(fail_if_success exact bqf);exact .b)))<;>intro _))
  all_goals rename_i b9 hb9 hb8
  all_goals first
   |(refine .ret rfl (.bool ?_);rw[zfw,hstep,bT hb9 hb8];simp)
   |(refine Go.keep [0,1,7,8,9] (hrec _ _ _ O ⟨i+1,_,rfl,hlt,wb hk O, ?_,rfl,rfl⟩);rw[hstep,hcol,bF hb9 hb8];rfl)
 ·repeat' first|refine X ?_|exact yaF|refine yaS ?_ ?_<;>intro _
  refine .ret rfl (.bool ?_);rw[zfw,hsl,yad O]
  rfl
structure Data where
 rows:List RowD
 deriving DecidableEq
def wa(a:Data):List Ce:=[.fz (a.rows.map jc)]
def wc5(N:Nat)(a:Data):Prop:=(a.rows.length<=N/\∀x∈a.rows,zlg N x)
def wbn(p:Option Int)(n:Int):Bool:=match p with|none=>true|some q=>decide (q<n)
def jcg(t:wc)(p:Option Int)(r:RowD):Bool:=isIn r.id 1 1000000000&&(wbn p r.id&&fitF t r.vals)
def wae(t:wc):Option Int->List RowD->Bool
 |_,[]=>true
 |p,r::l=>jcg t p r&&wae t (some r.id) l
def wdf(t:wc)(l:List RowD):Bool:=wae t none l&&decide ((l.length:Int)<=60)
def zdg:List wc->List Data->Bool
 |t::s,d::db=>wdf t d.rows&&zdg s db
 |_,_=>true
def dbF(s:List wc)(db:List Data):Bool:=wl s&&(decide ((db.length:Int)=s.length)&&zdg s db)
theorem ziy(t:wc)(l:List RowD)(hx:l.length<=34359738368)(hb:∀r∈l,r.vals.length<=34359738368):Pure Tryz.prog 176 [.agg (ja t),.c (.fz (l.map jc))] (.c (.bool (wdf t l))):=by
 refine yaq [2] zfq λG=>?_;repeat' first|refine X ?_|exact yaF|refine yaS ?_ ?_<;>intro _
 refine Go.keep [1,2,7,8,9] (Go.loops (I:=λm fr V=>∃(i:Nat) (k:Int) (p:Option Int),m=l.length-i/\i<=l.length/\k=i/\(wae t none l=wae t p (l.drop i)/\((i=0/\p=none)\/∃j,∃hj:j<l.length,i=j+1/\p=some l[j].id))/\
  fr=[(1,.c (.fz (l.map jc))),(2,.c (.fp (ja t))),(7,.c (.fz (l.map jc))),(8,.c (.int .i64 (l.length:Int))),(9,.c (.int .i64 k))]/\V=E G []) ?_ _ _ _ ⟨0,_,none,rfl,yac _,rfl,⟨rfl,.inl ⟨rfl,rfl⟩⟩,rfl,rfl⟩)
 rintro m fr V ⟨i,k,p,rfl,hi,hk,⟨hs,hp⟩,rfl,rfl⟩ hrec;by_cases hlt:i<l.length
 ·have hv:=hb _ (yaa hlt);rw[yab hlt,wae]at hs;rcases hp with⟨rfl,rfl⟩|⟨j,hj,rfl,rfl⟩
  ·repeat' first|refine X ?_|((first|apply yG|apply yH|apply yI);exact rfl;(first|exact yax jc hk hlt))|((first|apply Go.pcallB|apply Go.spcallB|apply Qg.pcallB);(iterate 3 exact rfl);(first|exact jem _ _ _|exact jik t l[0].vals hv);intro _ _)|exact yaF|refine yaS ?_ ?_<;>intro _
   all_goals first
    |(refine .ret rfl (.bool ?_);clear hrec;rw[wdf,hs,jcg,wbn];clear hs;simp_all;done)
    |(refine Go.keep [1,2,7,8,9] (hrec _ _ _ O ⟨0+1,_,some l[0].id,rfl,hlt,wb hk O,⟨?_,.inr ⟨0,hlt,rfl,rfl⟩⟩,rfl,rfl⟩);clear hrec;rw[hs,jcg,wbn];clear hs;simp_all;done)
  ·repeat' first|refine X ?_|((first|apply yG|apply yH|apply yI);exact rfl;(first|exact yax jc hk hlt|exact yX (enc:=jc) rfl rfl (jg3 hk O) hj rfl))|((first|apply Go.pcallB|apply Go.spcallB|apply Qg.pcallB);(iterate 3 exact rfl);(first|exact jem _ _ _|exact jik t l[j+1].vals hv);intro _ _)|exact yaF|refine yaS ?_ ?_<;>intro _
   all_goals first
    |(refine .ret rfl (.bool ?_);clear hrec;rw[wdf,hs,jcg,wbn];clear hs;(simp_all<;>intros<;>omega);done)
    |(refine Go.keep [1,2,7,8,9] (hrec _ _ _ O ⟨j+1+1,_,some l[j+1].id,rfl,hlt,wb hk O,⟨?_,.inr ⟨j+1,hlt,rfl,rfl⟩⟩,rfl,rfl⟩);clear hrec;rw[hs,jcg,wbn];clear hs;(simp_all<;>intros<;>omega);done)
 ·repeat' first|refine X ?_|exact yaF|refine yaS ?_ ?_<;>intro _
  refine .ret rfl (.bool ?_);rw[wdf,hs,yad O];simp[wae]
theorem jjj(s:List wc)(db:List Data)(hx:s.length<=34359738368)(hb:∀t∈s,wad 34359738368 t)(hd:db.length<=34359738368)(hdb:∀d∈db,wc5 34359738368 d):Pure Tryz.prog 79 [.c (.fz (s.map ja)),.c (.fz (db.map wa))] (.c (.bool (dbF s db))):=by
 refine yaq [] zhv λG=>?_;have c1:=zcb s hx hb
 cases hs:wl s
 ·rw[hs]at c1;repeat' first|refine X ?_|refine yaC (c1) ?_|exact yaF|refine yaS ?_ ?_<;>intro _
  refine .ret rfl (.bool ?_);rw[dbF,hs]
  rfl
 rw[hs]at c1;repeat' first|refine X ?_|refine yaC (c1) ?_|exact yaF|refine yaS ?_ ?_<;>intro _
 ·rename_i h;refine .ret rfl (.bool ?_);rw[dbF,hs,decide_eq_false h]
  rfl
 rename_i hl;have hl:(db.length:Int)=s.length:=O
 refine Go.keep [0,17,18,19] (Go.loops (I:=λm fr V=>∃(i:Nat) (k:Int),m=db.length-i/\i<=db.length/\k=i/\zdg s db=zdg (s.drop i) (db.drop i)/\
  fr=[(0,.c (.fz (s.map ja))),(17,.c (.fz (db.map wa))),(18,.c (.int .i64 (db.length:Int))),(19,.c (.int .i64 k))]/\V=E G []) ?_ _ _ _ ⟨0,_,rfl,yac _,rfl,rfl,rfl,rfl⟩)
 rintro m fr V ⟨i,k,rfl,hi,hk,hsl,rfl,rfl⟩ hrec;clear c1;by_cases hlt:i<db.length
 ·have hlt2:i<s.length:=O;have hbd:=hdb _ (yaa hlt);rw[yab hlt,yab hlt2,zdg]at hsl;repeat' first|refine X ?_|((first|apply yG|apply yH|apply yI);exact rfl;(first|exact yax wa hk hlt|exact yax ja hk hlt2))|((first|apply Go.pcallB|apply Go.spcallB|apply Qg.pcallB);(iterate 3 exact rfl);exact ziy s[i] db[i].rows hbd.1 (λr hr=>(hbd.2 r hr).1);intro _ _)|exact yaF|refine yaS ?_ ?_<;>intro _
  ·rename_i b p h;refine .ret rfl (.bool ?_);rw[dbF,hsl,nbT p h];simp
  ·rename_i b p h;refine Go.keep [0,17,18,19] (hrec _ _ _ O ⟨i+1,_,rfl,hlt,wb hk O, ?_,rfl,rfl⟩);rw[hsl,nbF p h,yav]
 ·repeat' first|refine X ?_|exact yaF|refine yaS ?_ ?_<;>intro _
  refine .ret rfl (.bool ?_);rw[dbF,hs,hsl,decide_eq_true hl,show db.drop i=[]from yad O]
  cases List.drop i s<;>rfl
theorem zk4(s:List wc)(db:List Data)(hx:s.length<=34359738368)(hd:db.length<=34359738368)(hdb:∀d∈db,wc5 34359738368 d):Pure Tryz.prog 159 [.c (.fz (s.map ja)),.c (.fz (db.map wa))] (.c (.bool (decide ((db.length:Int)=s.length)&&zdg s db))):=by
 refine yaq [] jhw λG=>?_;repeat' first|refine X ?_|exact yaF|refine yaS ?_ ?_<;>intro _
 ·rename_i h;refine .ret rfl (.bool ?_);rw[decide_eq_false h]
  rfl
 rename_i hl;have hl:(db.length:Int)=s.length:=O
 refine Go.keep [0,1,5] (Go.loops (I:=λm fr V=>∃(i:Nat) (k:Int),m=db.length-i/\i<=db.length/\k=i/\zdg s db=zdg (s.drop i) (db.drop i)/\
  fr=[(0,.c (.fz (s.map ja))),(1,.c (.fz (db.map wa))),(5,.c (.int .i64 k))]/\V=E G []) ?_ _ _ _ ⟨0,_,rfl,yac _,rfl,rfl,rfl,rfl⟩)
 rintro m fr V ⟨i,k,rfl,hi,hk,hsl,rfl,rfl⟩ hrec;by_cases hlt:i<db.length
 ·have hlt2:i<s.length:=O;have hbd:=hdb _ (yaa hlt);rw[yab hlt,yab hlt2,zdg,wdf]at hsl;obtain⟨l,hle⟩:∃l,db[i].rows=l:=⟨_,rfl⟩;have hrl:l.length<=34359738368:=by rw[<-hle];exact hbd.1
  have hrv:∀r∈l,r.vals.length<=34359738368:=by rw[<-hle];exactλr hr=>(hbd.2 r hr).1
  repeat' first|refine X ?_|((first|apply yG|apply yH|apply yI);exact rfl;(first|exact yax wa hk hlt))|exact yaF|refine yaS ?_ ?_<;>intro _
  rw[hle]at hsl⊢
  refine Go.keep [0,1,5,6,7] (Go.loops (I:=λm fr V=>∃(j:Nat) (q:Int) (p:Option Int),m=l.length-j/\j<=l.length/\q=j/\(wae s[i] none l=wae s[i] p (l.drop j)/\((j=0/\p=none)\/∃a,∃ha:a<l.length,j=a+1/\p=some l[a].id))/\
   fr=[(0,.c (.fz (s.map ja))),(1,.c (.fz (db.map wa))),(5,.c (.int .i64 k)),(6,.c (.fz (l.map jc))),(7,.c (.int .i64 q))]/\V=E G []) ?_ _ _ _ ⟨0,_,none,rfl,yac _,rfl,⟨rfl,.inl ⟨rfl,rfl⟩⟩,rfl,rfl⟩)
  rintro m fr V ⟨j,q,p,rfl,hj,hq,⟨hs2,hp⟩,rfl,rfl⟩ hrec2;by_cases hlj:j<l.length
  ·have hv:=hrv _ (yaa hlj);rw[yab hlj,wae]at hs2;clear hrec;rcases hp with⟨rfl,rfl⟩|⟨a,ha,rfl,rfl⟩
   ·repeat' first|refine X ?_|((first|apply yG|apply yH|apply yI);exact rfl;(first|exact yax jc hq hlj|exact yax ja hk hlt2))|((first|apply Go.pcallB|apply Go.spcallB|apply Qg.pcallB);(iterate 3 exact rfl);(first|exact zav _ _ _|exact zb4 s[i] l[0].vals hv);intro _ _)|exact yaF|refine yaS ?_ ?_<;>intro _
    all_goals first
     |(refine .ret rfl (.bool ?_);clear hrec2;rw[hsl,hs2,jcg,wbn];clear hs2 hsl;simp_all;done)
     |(refine Go.keep [0,1,5,6,7] (hrec2 _ _ _ O ⟨0+1,_,some l[0].id,rfl,hlj,wb hq O,⟨?_,.inr ⟨0,hlj,rfl,rfl⟩⟩,rfl,rfl⟩);clear hrec2;rw[hs2,jcg,wbn];clear hs2 hsl;simp_all;done)
   ·repeat' first|refine X ?_|((first|apply yG|apply yH|apply yI);exact rfl;(first|exact yax jc hq hlj|exact yX (enc:=jc) rfl rfl (jg3 hq O) ha rfl|exact yax ja hk hlt2))|((first|apply Go.pcallB|apply Go.spcallB|apply Qg.pcallB);(iterate 3 exact rfl);(first|exact zav _ _ _|exact zb4 s[i] l[a+1].vals hv);intro _ _)|exact yaF|refine yaS ?_ ?_<;>intro _
    all_goals first
     |(refine .ret rfl (.bool ?_);clear hrec2;rw[hsl,hs2,jcg,wbn];clear hs2 hsl;(simp_all<;>intros<;>omega);done)
     |(refine Go.keep [0,1,5,6,7] (hrec2 _ _ _ O ⟨a+1+1,_,some l[a+1].id,rfl,hlj,wb hq O,⟨?_,.inr ⟨a+1,hlj,rfl,rfl⟩⟩,rfl,rfl⟩);clear hrec2;rw[hs2,jcg,wbn];clear hs2 hsl;(simp_all<;>intros<;>omega);done)
  ·clear hrec2;rw[yad O,wae]at hs2;repeat' first|refine X ?_|exact yaF|refine yaS ?_ ?_<;>intro _
   ·rename_i h;refine .ret rfl (.bool ?_);rw[hsl,hs2,decide_eq_false (p:=(l.length:Int)<=60) O];simp
   ·rename_i h;refine Go.keep [0,1,5] (hrec _ _ _ O ⟨i+1,_,rfl,hlt,wb hk O, ?_,rfl,rfl⟩);rw[hsl,hs2,decide_eq_true (p:=(l.length:Int)<=60) O]
    rfl
 ·repeat' first|refine X ?_|exact yaF|refine yaS ?_ ?_<;>intro _
  refine .ret rfl (.bool ?_);rw[hsl,decide_eq_true hl,show db.drop i=[]from yad O]
  cases List.drop i s<;>rfl
theorem wik(s:List wc)(db:List Data)(hx:s.length<=34359738368)(hb:∀t∈s,wad 34359738368 t)(hd:db.length<=34359738368)(hdb:∀d∈db,wc5 34359738368 d):Pure Tryz.prog 65 [.c (.fz (s.map ja)),.c (.fz (db.map wa))] (.c (.bool (dbF s db))):=by
 refine yaq [] wht λG=>?_;have c1:=zcs s hx hb;have c2:=zk4 s db hx hd hdb;rw[dbF];generalize (decide ((db.length:Int)=s.length)&&zdg s db)=B at c2⊢
 cases hs:wl s
 ·rw[hs]at c1;repeat' first|refine X ?_|refine yaC (c1) ?_|exact yaF|refine yaS ?_ ?_<;>intro _
  exact .ret rfl (.bool rfl)
 ·rw[hs]at c1;repeat' first|refine X ?_|refine yaC (c1) ?_|refine yaC (c2) ?_|exact yaF|refine yaS ?_ ?_<;>intro _
  exact .ret rfl (.bool rfl)
theorem jk4(s:List wc)(db:List Data)(n:Int)(hx:s.length<=34359738368)(hb:∀t∈s,wad 34359738368 t)(hd:db.length<=34359738368)(hdb:∀d∈db,wc5 34359738368 d):Pure Tryz.prog 144 [.c (.fz (s.map ja)),.c (.fz (db.map wa)),.c (.int .i64 n)] (.c (.bool (dbF s db&&isIn n 0 (s.length-1)))):=by
 refine yaq [] whv λG=>?_;have c1:=wik s db hx hb hd hdb;have hw:IntKind.i64.wrap ((s.length:Int)-1)=s.length-1:=zk O O
 cases hs:dbF s db
 ·rw[hs]at c1;repeat' first|refine X ?_|refine yaC (c1) ?_|exact yaF|refine yaS ?_ ?_<;>intro _
  exact .ret rfl (.bool rfl)
 ·rw[hs]at c1;repeat' first|refine X ?_|refine yaC (c1) ?_|((first|apply yQ|apply yR|apply yS);(iterate 3 exact rfl);exact zav _ _ _)|exact yaF|refine yaS ?_ ?_<;>intro _
  refine .ret rfl (.bool ?_);rw[hw]
  rfl
variable {db:List Data}
theorem wbv(h:dbF s db=true):wl s=true/\db.length=s.length/\∀i (hi:i<s.length) (hi2:i<db.length),wdf s[i] db[i].rows=true:=by
 simp only[dbF,Bool.and_eq_true,decide_eq_true_eq]at h;obtain⟨h1,h2,h3⟩:=h;refine⟨h1,O, ?_⟩;clear h1 h2
 induction s generalizing db with
 |nil=>intro i hi;simp at hi
 |cons t s ih=>
  cases db with
  |nil=>intro i _ hi;simp at hi
  |cons d db=>
   rw[zdg,yau]at h3;intro i hi hi2
   cases i with
   |zero=>exact h3.1
   |succ i=>exact ih h3.2 i (by simpa using hi) (by simpa using hi2)
theorem jfb{t:wc}:∀{l:List RowD} {p:Option Int},wae t p l=true->∀r∈l,fitF t r.vals=true/\isIn r.id 1 1000000000=true
 |[],_,_,r,hr=>by simp at hr
 |a::l,p,h,r,hr=>by
  simp only[wae,jcg,Bool.and_eq_true]at h;rcases List.mem_cons.1 hr with rfl|hr
  ·exact⟨h.1.2.2,h.1.1⟩
  ·exact jfb h.2 r hr
theorem jb4{l:List RowD}(h:wdf t l=true):l.length<=60/\∀r∈l,fitF t r.vals=true/\isIn r.id 1 1000000000=true:=by
 simp only[wdf,Bool.and_eq_true,decide_eq_true_eq]at h;exact⟨O,jfb h.1⟩
theorem jhg{t:wc}:∀{l:List Val} {i:Nat},jc9 t i l=true->∀v∈l,zr v=true
 |[],_,_,v,hv=>by simp at hv
 |a::l,i,h,v,hv=>by
  simp only[jc9,ze8,Bool.and_eq_true]at h;rcases List.mem_cons.1 hv with rfl|hv
  ·exact h.1.1
  ·exact jhg h.2 v hv
theorem j6{l:List Val}(h:fitF t l=true):l.length=t.cols.length/\∀v∈l,zr v=true:=by
 simp only[fitF,Bool.and_eq_true,decide_eq_true_eq]at h;exact⟨O,jhg h.2⟩
theorem za9{l:List Val}(h:fitF t l=true)(hc:t.cols.length<=8):zq l 16=true:=by
 obtain⟨h1,h2⟩:=j6 h;simp only[zq,Bool.and_eq_true,decide_eq_true_eq,List.all_eq_true];exact⟨O,h2⟩
def zh7(a:RowD):Int:=1+cntL (λ_=>3) a.vals
def wfb(a:Data):Int:=0+cntL zh7 a.rows
variable {S:Nat->Prop}{y:Ce}
theorem jkd{x:Ce}(hf:Flat y)(h:Has G S y x):x=y:=by
 cases hf<;>(cases h;rfl)
theorem zfc{x:AV}(hf:Flat y)(h:HasV G S (.c y) x):x=.c y:=by
 cases h with
 |c h=>rw[jkd hf h]
variable {V:jb}{r:AV}
theorem jfc{ys:List AV}(h:NewV G (.tup ys) r V):∃xs,∃U:Nat->Nat->Prop,∃hl:xs.length=ys.length,r=.tup xs/\Gr G V/\(∀i a,U i a->G.next<=a/\a<V.next)/\∀i (hy:i<ys.length) (hx:i<xs.length),HasV V (U i) ys[i] xs[i]:=by
 obtain⟨hg,hh⟩:=h;generalize hy0:AV.tup ys=y0 at hh
 cases hh with
 |c h=>cases hy0
 |agg h=>cases hy0
 |@tup S ys' xs U hl hU hd h=>
  injection hy0 with hy0;subst hy0;exact⟨xs,U,hl,rfl,hg,λi a ha=>hU i a ha,h⟩
theorem whg{f:Ce}(hf:Flat f)(h:NewV G (.tup [.c y,.c f]) r V):∃x,r=.tup [.c x,.c f]/\Gr G V/\Has V (λa=>G.next<=a/\a<V.next) y x:=by
 obtain⟨xs,U,hl,rfl,hg,hU,h⟩:=jfc h
 match xs,hl with
 |[x1,x2],_=>
  have h1:=h 0 gx gx;have h2:=h 1 gx gx;simp only[List.getElem_cons_zero,List.getElem_cons_succ]at h1 h2;obtain rfl:=zfc hf h2
  cases h1 with
  |c h1=>exact⟨_,rfl,hg,h1.mono λa ha=>hU 0 a ha⟩
theorem zhh{f g:Ce}(hf:Flat f)(hg':Flat g)(h:NewV G (.tup [.c y,.c f,.c g]) r V):∃x,r=.tup [.c x,.c f,.c g]/\Gr G V/\Has V (λa=>G.next<=a/\a<V.next) y x:=by
 obtain⟨xs,U,hl,rfl,hg,hU,h⟩:=jfc h
 match xs,hl with
 |[x1,x2,x3],_=>
  have h1:=h 0 gx gx;have h2:=h 1 gx gx;have h3:=h 2 gx gx;simp only[List.getElem_cons_zero,List.getElem_cons_succ]at h1 h2 h3;obtain rfl:=zfc hf h2;obtain rfl:=zfc hg' h3
  cases h1 with
  |c h1=>exact⟨_,rfl,hg,h1.mono λa ha=>hU 0 a ha⟩
theorem wk4{f:Ce}(h:Flat f):HasV V S (.c f) (.c f):=.c (.c h)
theorem zd3{x f:Ce}(hf:Flat f)(h:NewV G (.c y) (.c x) V):NewV G (.tup [.c y,.c f]) (.tup [.c x,.c f]) V:=
 ⟨h.1,.pair h.2 (wk4 (S:=λ_=>False) hf) (λ_ h=>h) (λ_ h=>h.elim) (λ_ _ h=>h)⟩
theorem jks(g:Gr G V):NewV G (.c (.fz [])) (.c .nils) V:=⟨g,.c .nil⟩
theorem wcg{s:Nat}(hy:∀e∈ys,e.length=s/\∀x∈e,Flat x)(hj:Jk s junk):NewV G (.c (.fz ys)) (.c (vec (G.next+0) v ys junk)) (E G [(v,ys++junk)]):=
 (Made.new hy (r:=.c (vec (G.next+0) v ys junk)) ⟨v,junk,hj,rfl,rfl⟩).v
theorem wjj{es:List (List Ce)}(h:∀e∈es,∀x∈e,Flat x):Gr G (E G [(v,es)]):=
 ⟨_,rfl,λb hb e he x hx=>by rw[List.mem_singleton.1 hb]at he;exact .flat (h e he x hx)⟩
theorem zil{s:Nat}(hy:∀e∈ys,e.length=s/\∀x∈e,Flat x)(hj:Jk s junk):∀e∈ys++junk,∀x∈e,Flat x:=λe he=>(List.mem_append.1 he).elim (λh=>(hy e h).2) λh=>(hj e h).2
def isM(w:List Tok)(r:RowD):Int:=if 0<w.length then wb2 w r.vals else 1
def waa(w:List Tok):List RowD->List Int->Option (List Int)
 |[],acc=>some acc
 |r::l,acc=>if isM w r=-1 then none else waa w l (if isM w r=1 then acc++[r.id]else acc)
def jv(l:List RowD)(w:List Tok):List Int×Bool:=match waa w l []with|some ids=>(ids,true)|none=>([],false)
variable {xs:List Int}
theorem wak:∀e∈xs.map encI,e.length=1/\∀x∈e,Flat x:=zkz xs
theorem wfc(l:List RowD)(w:List Tok)(hx:l.length<=1048576)(hb:∀r∈l,r.vals.length<=34359738368)(hw:w.length<=34359738368)(G:jb):Ok Tryz.prog 143 [.c (.fz (l.map jc)),.c (.fz (w.map zi))] G (NewV G (.tup [.c (.fz ((jv l w).1.map encI)),.c (.bool (jv l w).2)])):=by
 refine Ok.run mixed wdk gz λhS hA=>?_;clear hS hA;repeat' first|refine X ?_|exact yaF|refine yaS ?_ ?_<;>intro _
 refine Go.keep [1,6,11,12,13] (Go.loops (I:=λm fr V=>∃(i:Nat) (k:Int) (ids:List Int) (v:Nat) (junk:List (List Ce)),m=l.length-i/\i<=l.length/\k=i/\Jk 1 junk/\(ids.length<=i/\waa w l []=waa w (l.drop i) ids)/\
  fr=[(1,.c (.fz (w.map zi))),(6,.c (vec (G.next+0) v (ids.map encI) junk)),(11,.c (.fz (l.map jc))),(12,.c (.int .i64 (l.length:Int))),(13,.c (.int .i64 k))]/\V=E G [(v,ids.map encI++junk)]) ?_ _ _ _ ⟨0,_,[],0,[],rfl,yac _,rfl,Jk.nil,⟨yac _,rfl⟩,rfl,rfl⟩)
 rintro m fr V ⟨i,k,ids,v,junk,rfl,hi,hk,hj,⟨hil,hs⟩,rfl,rfl⟩ hrec;by_cases hlt:i<l.length
 ·have hv:=hb _ (yaa hlt);rw[yab hlt,waa,isM]at hs;have hbd:((ids.map encI).length+1)*8<=140737488355328:=by rw[yae];omega
  have c1:=zgn w l[i].vals hw hv;generalize hT:wb2 w l[i].vals=T at c1 hs;have hz1:∀e∈ids.map encI,e.length=1:=λe he=>(wak e he).1;have e1:ids.map encI++[encI l[i].id]=(ids++[l[i].id]).map encI:=gx;by_cases h0:0<w.length
  ·rw[if_pos h0]at hs;repeat' first|refine X ?_|((first|apply yG|apply yH|apply yI);exact rfl;(first|exact yax jc hk hlt))|(apply Go.app1;exact rfl;exact rfl;exact rfl;exact rfl;exact rfl;exact hz1;exact hj;exact rfl;exact hbd;intro v' junk' hj')|refine yaC (c1) ?_|exact yaF|refine yaS ?_ ?_<;>intro _
   ·rename_i h1 h2;rw[if_pos h2]at hs;refine .ret rfl ?_;rw[jv,hs];exact zd3 (.bool _) (jks (wjj (zil wak hj)))
   ·rename_i h1 h2 h3;rw[if_neg h2,if_pos h3]at hs;refine Go.keep [1,6,11,12,13] (hrec _ _ _ O ⟨i+1,_,ids++[l[i].id],v',junk',rfl,hlt,wb hk O,hj',⟨by simp;omega,hs⟩, ?_, ?_⟩)
    ·rw[<-e1];rfl
    ·rw[<-e1];rfl
   ·rename_i h1 h2 h3;rw[if_neg h2,if_neg h3]at hs;exact Go.keep [1,6,11,12,13] (hrec _ _ _ O ⟨i+1,_,ids,v,junk,rfl,hlt,wb hk O,hj,⟨O,hs⟩,rfl,rfl⟩)
  ·rw[if_neg h0]at hs;repeat' first|refine X ?_|((first|apply yG|apply yH|apply yI);exact rfl;(first|exact yax jc hk hlt))|(apply Go.app1;exact rfl;exact rfl;exact rfl;exact rfl;exact rfl;exact hz1;exact hj;exact rfl;exact hbd;intro v' junk' hj')|exact yaF|refine yaS ?_ ?_<;>intro _
   rw[if_neg gb,if_pos rfl]at hs;refine Go.keep [1,6,11,12,13] (hrec _ _ _ O ⟨i+1,_,ids++[l[i].id],v',junk',rfl,hlt,wb hk O,hj',⟨by simp;omega,hs⟩, ?_, ?_⟩)
   ·rw[<-e1];rfl
   ·rw[<-e1];rfl
 ·repeat' first|refine X ?_|exact yaF|refine yaS ?_ ?_<;>intro _
  refine .ret rfl ?_;rw[yad O,waa]at hs;rw[jv,hs];exact zd3 (.bool _) (wcg wak hj)
theorem wgp(d:Data)(w:List Tok)(hx:d.rows.length<=1048576)(hw:w.length<=34359738368)(hT:0<w.length->∀r∈d.rows,zq r.vals 16=true/\jao w r.vals.length=true)(G:jb):Ok Tryz.prog 68 [.agg (wa d),.c (.fz (w.map zi))] G (NewV G (.tup [.c (.fz ((jv d.rows w).1.map encI)),.c (.bool (jv d.rows w).2)])):=by
 refine Ok.run mixed zc3 gz λhS hA=>?_;clear hS hA;repeat' first|refine X ?_|exact yaF|refine yaS ?_ ?_<;>intro _
 refine Go.keep [1,2,6,7] (Go.loops (I:=λm fr V=>∃(i:Nat) (k:Int) (ids:List Int) (v:Nat) (junk:List (List Ce)),m=d.rows.length-i/\i<=d.rows.length/\k=i/\Jk 1 junk/\(ids.length<=i/\waa w d.rows []=waa w (d.rows.drop i) ids)/\
  fr=[(1,.c (.fz (w.map zi))),(2,.c (.fp (wa d))),(6,.c (vec (G.next+0) v (ids.map encI) junk)),(7,.c (.int .i64 k))]/\V=E G [(v,ids.map encI++junk)]) ?_ _ _ _ ⟨0,_,[],0,[],rfl,yac _,rfl,Jk.nil,⟨yac _,rfl⟩,rfl,rfl⟩)
 rintro m fr V ⟨i,k,ids,v,junk,rfl,hi,hk,hj,⟨hil,hs⟩,rfl,rfl⟩ hrec;by_cases hlt:i<d.rows.length
 ·rw[yab hlt,waa,isM]at hs;have hbd:((ids.map encI).length+1)*8<=140737488355328:=by rw[yae];omega
  have hz1:∀e∈ids.map encI,e.length=1:=λe he=>(wak e he).1;have e1:ids.map encI++[encI d.rows[i].id]=(ids++[d.rows[i].id]).map encI:=gx;by_cases h0:0<w.length
  ·obtain⟨q1,q2⟩:=hT h0 _ (yaa hlt);have c1:=jd2 w d.rows[i].vals q1 q2;have hTT:wb2 w d.rows[i].vals=jcq w d.rows[i].vals:=by rw[wb2,jc8,q1,q2];rfl
   have hr:-1<=jcq w d.rows[i].vals:=by
    rw[jcq];split
    ·rw[waf];split
     ·decide
     ·split
      ·split<;>decide
      ·decide
    ·decide
   rw[if_pos h0,hTT]at hs;generalize jcq w d.rows[i].vals=T at c1 hs hr;repeat' first|refine X ?_|((first|apply yG|apply yH|apply yI);exact rfl;(first|exact yax jc hk hlt))|(apply Go.app1;exact rfl;exact rfl;exact rfl;exact rfl;exact rfl;exact hz1;exact hj;exact rfl;exact hbd;intro v' junk' hj')|refine yaC (c1) ?_|exact yaF|refine yaS ?_ ?_<;>intro _
   ·rename_i h1 h2;rw[if_pos O]at hs;refine .ret rfl ?_;rw[jv,hs];exact zd3 (.bool _) (jks (wjj (zil wak hj)))
   ·rename_i h1 h2 h3;rw[if_neg O,if_pos h3]at hs;refine Go.keep [1,2,6,7] (hrec _ _ _ O ⟨i+1,_,ids++[d.rows[i].id],v',junk',rfl,hlt,wb hk O,hj',⟨by simp;omega,hs⟩, ?_, ?_⟩)
    ·rw[<-e1];rfl
    ·rw[<-e1];rfl
   ·rename_i h1 h2 h3;rw[if_neg O,if_neg h3]at hs;exact Go.keep [1,2,6,7] (hrec _ _ _ O ⟨i+1,_,ids,v,junk,rfl,hlt,wb hk O,hj,⟨O,hs⟩,rfl,rfl⟩)
  ·rw[if_neg h0]at hs;repeat' first|refine X ?_|((first|apply yG|apply yH|apply yI);exact rfl;(first|exact yax jc hk hlt))|(apply Go.app1;exact rfl;exact rfl;exact rfl;exact rfl;exact rfl;exact hz1;exact hj;exact rfl;exact hbd;intro v' junk' hj')|exact yaF|refine yaS ?_ ?_<;>intro _
   rw[if_neg gb,if_pos rfl]at hs;refine Go.keep [1,2,6,7] (hrec _ _ _ O ⟨i+1,_,ids++[d.rows[i].id],v',junk',rfl,hlt,wb hk O,hj',⟨by simp;omega,hs⟩, ?_, ?_⟩)
   ·rw[<-e1];rfl
   ·rw[<-e1];rfl
 ·repeat' first|refine X ?_|exact yaF|refine yaS ?_ ?_<;>intro _
  refine .ret rfl ?_;rw[yad O,waa]at hs;rw[jv,hs];exact zd3 (.bool _) (wcg wak hj)
def wks(db:List Data)(n:Int):List RowD:=match db[n.toNat]? with|some d=>d.rows|none=>[]
theorem zjk{n m:Int}(h:isIn n 0 (m-1)=true):0<=n/\n<m:=by
 simp only[isIn,Bool.and_eq_true,decide_eq_true_eq]at h;omega
theorem jh7{w:List Tok}{n:Int}(h:jbn w n=true)(h0:0<w.length):jao w n=true:=by
 rw[jbn,beq_eq_false_iff_ne.2 O,ybu]at h;exact h
def wh7(vals:List Val)(c:Int):Val:=vals[c.toNat]?.getD zf
def keyF(cols:List Int)(vals:List Val):List Val:=cols.map (wh7 vals)
def zab(cols:List Int)(vals:List Val):Bool:=cols.all λc=> !((wh7 vals c).k==0)
def InR(cols:List Int)(n:Nat):Prop:=∀c∈cols,0<=c/\c<n
variable {vals:List Val}
theorem jil(h:c.toNat<vals.length):wh7 vals c=vals[c.toNat]:=by rw[wh7,yag h];rfl
theorem wa0(cols:List Int)(vals:List Val):(keyF cols vals).length=cols.length:=yae _
variable {cols:List Int}{i:Nat}
theorem jhh(h:i<cols.length):keyF (cols.take (i+1)) vals=keyF (cols.take i) vals++[wh7 vals cols[i]]:=by
 rw[yaj h,keyF,yak];rfl
theorem zfd(h:i<cols.length):zab (cols.take (i+1)) vals=(zab (cols.take i) vals&& !((wh7 vals cols[i]).k==0)):=by
 rw[yaj h,zab,List.all_append,zab,ybw,List.all_nil,Bool.and_true]
theorem jfd(cols:List Int)(vals:List Val)(hx:cols.length<=34359738368)(hi:InR cols vals.length)(G:jb):Ok Tryz.prog 297 [.c (.fz (cols.map encI)),.c (.fz (vals.map encV))] G (NewV G (.tup [.c (.fz ((keyF cols vals).map encV)),.c (.bool (zab cols vals))])):=by
 refine Ok.run mixed ze3 gz λhS hA=>?_;clear hS hA;repeat' first|refine X ?_|exact yaF|refine yaS ?_ ?_<;>intro _
 refine Go.keep [1,6,7,11,12,13] (Go.loops (I:=λm fr V=>∃(i:Nat) (k:Int) (v:Nat) (junk:List (List Ce)) (ks:List Val) (b:Bool),m=cols.length-i/\i<=cols.length/\k=i/\Jk 3 junk/\(ks=keyF (cols.take i) vals/\b=zab (cols.take i) vals)/\
  fr=[(1,.c (.fz (vals.map encV))),(6,.c (vec (G.next+0) v (ks.map encV) junk)),(7,.c (.bool b)),(11,.c (.fz (cols.map encI))),(12,.c (.int .i64 (cols.length:Int))),(13,.c (.int .i64 k))]/\V=E G [(v,ks.map encV++junk)]) ?_ _ _ _ ⟨0,_,0,[],[],true,rfl,yac _,rfl,Jk.nil,⟨rfl,rfl⟩,rfl,rfl⟩)
 rintro m fr V ⟨i,k,v,junk,ks,b,rfl,hile,hk,hj,⟨hks,hb⟩,rfl,rfl⟩ hrec;by_cases hlt:i<cols.length
 ·obtain⟨q1,q2⟩:=hi _ (yaa hlt);have hc:cols[i]=(cols[i].toNat:Int):=O;have hcl:cols[i].toNat<vals.length:=O;have hv:=jil hcl;have hkl:(ks.map encV).length=i:=by rw[yae,hks,wa0,yat];omega
  have hbd:((ks.map encV).length+1)*32<=140737488355328:=O;have e1:ks.map encV++[encV vals[cols[i].toNat]]=(ks++[vals[cols[i].toNat]]).map encV:=gx;have hk2:ks++[vals[cols[i].toNat]]=keyF (cols.take (i+1)) vals:=by rw[jhh hlt,<-hks,hv]
  have hw2:=zfd (vals:=vals) hlt;rw[<-hb,hv]at hw2
  cases b
  ·repeat' first|refine X ?_|((first|apply yG|apply yH|apply yI);exact rfl;(first|exact yax encI hk hlt|exact yax encV hc hcl))|(apply Go.app1;exact rfl;exact rfl;exact rfl;exact rfl;exact rfl;exact lens;exact hj;exact rfl;exact hbd;intro v' junk' hj')|exact yaF|refine yaS ?_ ?_<;>intro _
   refine Go.keep [1,6,7,11,12,13] (hrec _ _ _ O ⟨i+1,_,v',junk',ks++[vals[cols[i].toNat]],_,rfl,hlt,wb hk O,hj',⟨hk2,hw2.symm⟩, ?_, ?_⟩)
   ·rw[<-e1];rfl
   ·rw[<-e1];rfl
  ·repeat' first|refine X ?_|((first|apply yG|apply yH|apply yI);exact rfl;(first|exact yax encI hk hlt|exact yax encV hc hcl))|(apply Go.app1;exact rfl;exact rfl;exact rfl;exact rfl;exact rfl;exact lens;exact hj;exact rfl;exact hbd;intro v' junk' hj')|exact yaF|refine yaS ?_ ?_<;>intro _
   refine Go.keep [1,6,7,11,12,13] (hrec _ _ _ O ⟨i+1,_,v',junk',ks++[vals[cols[i].toNat]],vals[cols[i].toNat].k !=0,rfl,hlt,wb hk O,hj',⟨hk2,hw2.symm⟩, ?_, ?_⟩)
   ·rw[<-e1];rfl
   ·rw[<-e1];rfl
 ·repeat' first|refine X ?_|exact yaF|refine yaS ?_ ?_<;>intro _
  refine .ret rfl ?_;rw[yao O]at hks hb;rw[<-hks,<-hb];exact zd3 (.bool _) (wcg zag hj)
theorem zep(cols:List Int)(vals:List Val)(hx:cols.length<=34359738368)(hi:InR cols vals.length):Pure Tryz.prog 297 [.c (.fz (cols.map encI)),.c (.fz (vals.map encV))] (.tup [.c (.fz ((keyF cols vals).map encV)),.c (.bool (zab cols vals))]):=NewV.pure (jfd cols vals hx hi)
theorem jjk(cols:List Int)(vals:List Val)(hx:cols.length<=34359738368)(hi:InR cols vals.length)(G:jb):Ok Tryz.prog 326 [.c (.fz (cols.map encI)),.c (.fz (vals.map encV))] G (NewV G (.tup [.c (.fz ((keyF cols vals).map encV)),.c (.bool (zab cols vals))])):=by
 refine Ok.run mixed je4 gz λhS hA=>?_;clear hS hA;repeat' first|refine X ?_|exact yaF|refine yaS ?_ ?_<;>intro _
 refine Go.keep [0,1,6,7,8] (Go.loops (I:=λm fr V=>∃(i:Nat) (k:Int) (v:Nat) (junk:List (List Ce)) (ks:List Val) (b:Bool),m=cols.length-i/\i<=cols.length/\k=i/\Jk 3 junk/\(ks=keyF (cols.take i) vals/\b=zab (cols.take i) vals)/\
  fr=[(0,.c (.fz (cols.map encI))),(1,.c (.fz (vals.map encV))),(6,.c (vec (G.next+0) v (ks.map encV) junk)),(7,.c (.bool b)),(8,.c (.int .i64 k))]/\V=E G [(v,ks.map encV++junk)]) ?_ _ _ _ ⟨0,_,0,[],[],true,rfl,yac _,rfl,Jk.nil,⟨rfl,rfl⟩,rfl,rfl⟩)
 rintro m fr V ⟨i,k,v,junk,ks,b,rfl,hile,hk,hj,⟨hks,hb⟩,rfl,rfl⟩ hrec;by_cases hlt:i<cols.length
 ·obtain⟨q1,q2⟩:=hi _ (yaa hlt);have hc:cols[i]=(cols[i].toNat:Int):=O;have hcl:cols[i].toNat<vals.length:=O;have hv:=jil hcl;have hkl:(ks.map encV).length=i:=by rw[yae,hks,wa0,yat];omega
  have hbd:((ks.map encV).length+1)*32<=140737488355328:=O;have e1:ks.map encV++[encV vals[cols[i].toNat]]=(ks++[vals[cols[i].toNat]]).map encV:=gx;have hk2:ks++[vals[cols[i].toNat]]=keyF (cols.take (i+1)) vals:=by rw[jhh hlt,<-hks,hv]
  have hw2:=zfd (vals:=vals) hlt;rw[<-hb,hv]at hw2
  cases b
  ·repeat' first|refine X ?_|((first|apply yG|apply yH|apply yI);exact rfl;(first|exact yax encI hk hlt|exact yax encV hc hcl))|(apply Go.app1;exact rfl;exact rfl;exact rfl;exact rfl;exact rfl;exact lens;exact hj;exact rfl;exact hbd;intro v' junk' hj')|exact yaF|refine yaS ?_ ?_<;>intro _
   refine Go.keep [0,1,6,7,8] (hrec _ _ _ O ⟨i+1,_,v',junk',ks++[vals[cols[i].toNat]],_,rfl,hlt,wb hk O,hj',⟨hk2,hw2.symm⟩, ?_, ?_⟩)
   ·rw[<-e1];rfl
   ·rw[<-e1];rfl
  ·repeat' first|refine X ?_|((first|apply yG|apply yH|apply yI);exact rfl;(first|exact yax encI hk hlt|exact yax encV hc hcl))|(apply Go.app1;exact rfl;exact rfl;exact rfl;exact rfl;exact rfl;exact lens;exact hj;exact rfl;exact hbd;intro v' junk' hj')|exact yaF|refine yaS ?_ ?_<;>intro _
   refine Go.keep [0,1,6,7,8] (hrec _ _ _ O ⟨i+1,_,v',junk',ks++[vals[cols[i].toNat]],vals[cols[i].toNat].k !=0,rfl,hlt,wb hk O,hj',⟨hk2,hw2.symm⟩, ?_, ?_⟩)
   ·rw[<-e1];rfl
   ·rw[<-e1];rfl
 ·repeat' first|refine X ?_|exact yaF|refine yaS ?_ ?_<;>intro _
  refine .ret rfl ?_;rw[yao O]at hks hb;rw[<-hks,<-hb];exact zd3 (.bool _) (wcg zag hj)
theorem wbi(cols:List Int)(vals:List Val)(hx:cols.length<=34359738368)(hi:InR cols vals.length):Pure Tryz.prog 326 [.c (.fz (cols.map encI)),.c (.fz (vals.map encV))] (.tup [.c (.fz ((keyF cols vals).map encV)),.c (.bool (zab cols vals))]):=NewV.pure (jjk cols vals hx hi)
def hasB(cols:List Int)(key vals:List Val):Bool:=zab cols vals&&(keyF cols vals==key)
def w8(rows:List RowD)(cols:List Int)(key:List Val):List Int:=(rows.filter λr=>hasB cols key r.vals).map (·.id)
variable {rows:List RowD}{key:List Val}
theorem jdg(h:i<rows.length):w8 (rows.take (i+1)) cols key=w8 (rows.take i) cols key++if hasB cols key rows[i].vals then[rows[i].id]else[]:=by
 rw[w8,yaj h,List.filter_append,yak,w8]
 congr 1
 rw[List.filter_cons,List.filter_nil];split<;>rfl
theorem wcz:(w8 rows cols key).length<=rows.length:=by rw[w8,yae];exact ybt _ _
theorem wil(cols:List Int)(vals key:List Val)(hx:cols.length<=34359738368)(hi:InR cols vals.length):Pure Tryz.prog 298 [.c (.fz (cols.map encI)),.c (.fz (vals.map encV)),.c (.fz (key.map encV))] (.c (.bool (hasB cols key vals))):=by
 refine yaq [] ziu λG=>?_;have c1:=zep cols vals hx hi;have c2:=wd9 (keyF cols vals) key (by rw[wa0];exact hx);rw[hasB];generalize keyF cols vals=ks at c1 c2⊢;generalize (ks==key)=e at c2⊢
 cases hw:zab cols vals
 ·rw[hw]at c1;repeat' first|refine X ?_|refine yaC (c1) ?_|exact yaF|refine yaS ?_ ?_<;>intro _
  exact .ret rfl (.bool rfl)
 ·rw[hw]at c1;repeat' first|refine X ?_|refine yaC (c1) ?_|refine yaC (c2) ?_|exact yaF|refine yaS ?_ ?_<;>intro _
  exact .ret rfl (.bool rfl)
theorem wkd(rows:List RowD)(cols:List Int)(key:List Val)(hr:rows.length<=1048576)(hx:cols.length<=34359738368)(hi:∀r∈rows,InR cols r.vals.length):Pure Tryz.prog 352 [.c (.fz (rows.map jc)),.c (.fz (cols.map encI)),.c (.fz (key.map encV))] (.c (.fz ((w8 rows cols key).map encI))):=by
 refine NewV.pure λG=>Ok.run mixed wco gz λhS hA=>?_;clear hS hA;repeat' first|refine X ?_|exact yaF|refine yaS ?_ ?_<;>intro _
 refine Go.keep [1,2,7,11,12,13] (Go.loops (I:=λm fr V=>∃(i:Nat) (k:Int) (v:Nat) (junk:List (List Ce)) (ids:List Int),m=rows.length-i/\i<=rows.length/\k=i/\Jk 1 junk/\ids=w8 (rows.take i) cols key/\
  fr=[(1,.c (.fz (cols.map encI))),(2,.c (.fz (key.map encV))),(7,.c (vec (G.next+0) v (ids.map encI) junk)),(11,.c (.fz (rows.map jc))),(12,.c (.int .i64 (rows.length:Int))),(13,.c (.int .i64 k))]/\V=E G [(v,ids.map encI++junk)]) ?_ _ _ _ ⟨0,_,0,[],[],rfl,yac _,rfl,Jk.nil,rfl,rfl,rfl⟩)
 rintro m fr V ⟨i,k,v,junk,ids,rfl,hile,hk,hj,hids,rfl,rfl⟩ hrec;by_cases hlt:i<rows.length
 ·have c1:=wil cols rows[i].vals key hx (hi _ (yaa hlt));have hn:=jdg (cols:=cols) (key:=key) hlt;rw[<-hids]at hn;have hl:(ids.map encI).length<=1048576:=by rw[yae,hids];have:=wcz (rows:=rows.take i) (cols:=cols) (key:=key);rw[yat]at this;omega
  have hbd:((ids.map encI).length+1)*8<=140737488355328:=O;have hz1:∀e∈ids.map encI,e.length=1:=λe he=>(wak e he).1;have e1:ids.map encI++[encI rows[i].id]=(ids++[rows[i].id]).map encI:=gx;clear hi
  cases hb:hasB cols key rows[i].vals
  ·rw[hb]at c1 hn;rw[if_neg yah,ybe]at hn;repeat' first|refine X ?_|((first|apply yG|apply yH|apply yI);exact rfl;(first|exact yax jc hk hlt))|refine yaC (c1) ?_|exact yaF|refine yaS ?_ ?_<;>intro _
   exact Go.keep [1,2,7,11,12,13] (hrec _ _ _ O ⟨i+1,_,v,junk,ids,rfl,hlt,wb hk O,hj,hn.symm,rfl,rfl⟩)
  ·rw[hb]at c1 hn;rw[if_pos rfl]at hn;repeat' first|refine X ?_|((first|apply yG|apply yH|apply yI);exact rfl;(first|exact yax jc hk hlt))|(apply Go.app1;exact rfl;exact rfl;exact rfl;exact rfl;exact rfl;exact hz1;exact hj;exact rfl;exact hbd;intro v' junk' hj')|refine yaC (c1) ?_|exact yaF|refine yaS ?_ ?_<;>intro _
   refine Go.keep [1,2,7,11,12,13] (hrec _ _ _ O ⟨i+1,_,v',junk',ids++[rows[i].id],rfl,hlt,wb hk O,hj',hn.symm, ?_, ?_⟩)
   ·rw[<-e1];rfl
   ·rw[<-e1];rfl
 ·repeat' first|refine X ?_|exact yaF|refine yaS ?_ ?_<;>intro _
  refine .ret rfl ?_;rw[yao O]at hids;rw[<-hids];exact wcg wak hj
theorem wfd(d:Data)(cols:List Int)(key:List Val)(hr:d.rows.length<=1048576)(hx:cols.length<=34359738368)(hi:∀r∈d.rows,InR cols r.vals.length):Pure Tryz.prog 380 [.agg (wa d),.c (.fz (cols.map encI)),.c (.fz (key.map encV))] (.c (.fz ((w8 d.rows cols key).map encI))):=by
 refine NewV.pure λG=>Ok.run mixed zem gz λhS hA=>?_;clear hS hA;repeat' first|refine X ?_|exact yaF|refine yaS ?_ ?_<;>intro _
 refine Go.keep [1,2,3,7,8] (Go.loops (I:=λm fr V=>∃(i:Nat) (k:Int) (v:Nat) (junk:List (List Ce)) (ids:List Int),m=d.rows.length-i/\i<=d.rows.length/\k=i/\Jk 1 junk/\ids=w8 (d.rows.take i) cols key/\
  fr=[(1,.c (.fz (cols.map encI))),(2,.c (.fz (key.map encV))),(3,.c (.fp (wa d))),(7,.c (vec (G.next+0) v (ids.map encI) junk)),(8,.c (.int .i64 k))]/\V=E G [(v,ids.map encI++junk)]) ?_ _ _ _ ⟨0,_,0,[],[],rfl,yac _,rfl,Jk.nil,rfl,rfl,rfl⟩)
 rintro m fr V ⟨i,k,v,junk,ids,rfl,hile,hk,hj,hids,rfl,rfl⟩ hrec;by_cases hlt:i<d.rows.length
 ·have c1:=wbi cols d.rows[i].vals hx (hi _ (yaa hlt));have c2:=zbi (keyF cols d.rows[i].vals) key (by rw[wa0];exact hx);have hn:=jdg (cols:=cols) (key:=key) hlt;rw[<-hids,hasB]at hn;have hl:(ids.map encI).length<=1048576:=by rw[yae,hids];have:=wcz (rows:=d.rows.take i) (cols:=cols) (key:=key);rw[yat]at this;omega
  have hbd:((ids.map encI).length+1)*8<=140737488355328:=O;have hz1:∀e∈ids.map encI,e.length=1:=λe he=>(wak e he).1;have e1:ids.map encI++[encI d.rows[i].id]=(ids++[d.rows[i].id]).map encI:=gx;clear hi;generalize keyF cols d.rows[i].vals=ks at c1 c2 hn;generalize (ks==key)=q at c2 hn
  cases hb:zab cols d.rows[i].vals
  ·rw[hb]at c1 hn;rw[ybg,if_neg yah,ybe]at hn;repeat' first|refine X ?_|((first|apply yG|apply yH|apply yI);exact rfl;(first|exact yax jc hk hlt))|refine yaC (c1) ?_|exact yaF|refine yaS ?_ ?_<;>intro _
   exact Go.keep [1,2,3,7,8] (hrec _ _ _ O ⟨i+1,_,v,junk,ids,rfl,hlt,wb hk O,hj,hn.symm,rfl,rfl⟩)
  ·cases q
   ·rw[hb]at c1 hn;rw[ybj,if_neg yah,ybe]at hn;repeat' first|refine X ?_|((first|apply yG|apply yH|apply yI);exact rfl;(first|exact yax jc hk hlt))|refine yaC (c1) ?_|refine yaC (c2) ?_|exact yaF|refine yaS ?_ ?_<;>intro _
    exact Go.keep [1,2,3,7,8] (hrec _ _ _ O ⟨i+1,_,v,junk,ids,rfl,hlt,wb hk O,hj,hn.symm,rfl,rfl⟩)
   ·rw[hb]at c1 hn;rw[Bool.and_true,if_pos rfl]at hn;repeat' first|refine X ?_|((first|apply yG|apply yH|apply yI);exact rfl;(first|exact yax jc hk hlt))|(apply Go.app1;exact rfl;exact rfl;exact rfl;exact rfl;exact rfl;exact hz1;exact hj;exact rfl;exact hbd;intro v' junk' hj')|refine yaC (c1) ?_|refine yaC (c2) ?_|exact yaF|refine yaS ?_ ?_<;>intro _
    refine Go.keep [1,2,3,7,8] (hrec _ _ _ O ⟨i+1,_,v',junk',ids++[d.rows[i].id],rfl,hlt,wb hk O,hj',hn.symm, ?_, ?_⟩)
    ·rw[<-e1];rfl
    ·rw[<-e1];rfl
 ·repeat' first|refine X ?_|exact yaF|refine yaS ?_ ?_<;>intro _
  refine .ret rfl ?_;rw[yao O]at hids;rw[<-hids];exact wcg wak hj
structure whh(t:wc):Prop where
 cols0:1<=t.cols.length
 cols8:t.cols.length<=8
 key:InR t.key t.cols.length
 uniq:∀u∈t.uniques,InR u.cols t.cols.length
 chk:∀c∈t.checks,jao c.expr t.cols.length=true
 fk:∀f∈t.fks,InR f.cols t.cols.length
 uniq3:t.uniques.length<=3
 chk3:t.checks.length<=3
 fk3:t.fks.length<=3
theorem zhi(h:waj t=true):whh t:=by
 simp only[waj,Bool.and_eq_true,decide_eq_true_eq,Bool.not_eq_true',List.any_eq_false,Bool.not_eq_false',Bool.not_eq_true]at h;obtain⟨h1,h2,h3,h4,h5,h6,h7,h8,h9,h10⟩:=h;have hc:=jd9 h2;exact⟨hc.1,hc.2,jca h3,λu hu=>jca (by simpa using h8 u hu),λc hc=>by simpa using h9 c hc,λf hf=>by
  have:wcp f t.cols.length=true:=by simpa using h10 f hf
  simp only[wcp,Bool.and_eq_true]at this;exact jca this.1,O,O,O⟩
theorem wcb(h:wl s=true):∀t∈s,whh t:=λt ht=>by
 simp only[wl,Bool.and_eq_true]at h;exact zhi (ja6 h.2.1 t ht)
def jav(t:wc):Nat->List Val->Bool
 |_,[]=>false
 |i,v::l=>(zx t i&&v.k==0)||jav t (i+1) l
theorem jiy(t:wc)(vals:List Val)(hl:vals.length=t.cols.length)(hc:t.cols.length<=8):Pure Tryz.prog 220 [.agg (ja t),.c (.fz (vals.map encV))] (.c (.bool (jav t 0 vals))):=by
 refine yaq [2] wfq λG=>?_;repeat' first|refine X ?_|exact yaF|refine yaS ?_ ?_<;>intro _
 refine Go.keep [2,7,8,9] (Go.loops (I:=λm fr V=>∃(i:Nat) (k:Int),m=vals.length-i/\i<=vals.length/\k=i/\jav t 0 vals=jav t i (vals.drop i)/\
  fr=[(2,.c (.fp (ja t))),(7,.c (.fz (vals.map encV))),(8,.c (.int .i64 (vals.length:Int))),(9,.c (.int .i64 k))]/\V=E G []) ?_ _ _ _ ⟨0,_,rfl,yac _,rfl,rfl,rfl,rfl⟩)
 rintro m fr V ⟨i,k,rfl,hi,hk,hs,rfl,rfl⟩ hrec;by_cases hlt:i<vals.length
 ·have hlc:i<t.cols.length:=O;have hnn:zx t i=t.cols[i].notNull:=by rw[zx,ybb,yag hlc]
  rw[yab hlt,jav,hnn]at hs
  cases hb:t.cols[i].notNull
  ·rw[hb,ybg,ybu]at hs;repeat' first|refine X ?_|((first|apply yG|apply yH|apply yI);exact rfl;(first|exact yax encV hk hlt|exact yax jf hk hlc))|exact yaF|refine yaS ?_ ?_<;>intro _
   all_goals first
    |exact Go.keep [2,7,8,9] (hrec _ _ _ O ⟨i+1,_,rfl,hlt,wb hk O,hs,rfl,rfl⟩)
    |(exfalso;simp_all;done)
  ·by_cases h0:vals[i].k=0
   ·rw[hb,h0]at hs;repeat' first|refine X ?_|((first|apply yG|apply yH|apply yI);exact rfl;(first|exact yax encV hk hlt|exact yax jf hk hlc))|exact yaF|refine yaS ?_ ?_<;>intro _
    all_goals first
     |exact .ret rfl (.bool hs.symm)
     |(exfalso;simp_all;done)
   ·rw[hb,beq_eq_false_iff_ne.2 h0,ybj,ybu]at hs;repeat' first|refine X ?_|((first|apply yG|apply yH|apply yI);exact rfl;(first|exact yax encV hk hlt|exact yax jf hk hlc))|exact yaF|refine yaS ?_ ?_<;>intro _
    all_goals first
     |exact Go.keep [2,7,8,9] (hrec _ _ _ O ⟨i+1,_,rfl,hlt,wb hk O,hs,rfl,rfl⟩)
     |(exfalso;simp_all;done)
 ·repeat' first|refine X ?_|exact yaF|refine yaS ?_ ?_<;>intro _
  rw[yad O,jav]at hs;exact .ret rfl (.bool hs.symm)
theorem wf3(t:wc)(vals:List Val)(hl:vals.length=t.cols.length)(hc:t.cols.length<=8):Pure Tryz.prog 347 [.agg (ja t),.c (.fz (vals.map encV))] (.c (.bool (!jav t 0 vals))):=by
 refine yaq [2] jfu λG=>?_;repeat' first|refine X ?_|exact yaF|refine yaS ?_ ?_<;>intro _
 refine Go.keep [1,2,5] (Go.loops (I:=λm fr V=>∃(i:Nat) (k:Int),m=vals.length-i/\i<=vals.length/\k=i/\jav t 0 vals=jav t i (vals.drop i)/\
  fr=[(1,.c (.fz (vals.map encV))),(2,.c (.fp (ja t))),(5,.c (.int .i64 k))]/\V=E G []) ?_ _ _ _ ⟨0,_,rfl,yac _,rfl,rfl,rfl,rfl⟩)
 rintro m fr V ⟨i,k,rfl,hi,hk,hs,rfl,rfl⟩ hrec;by_cases hlt:i<vals.length
 ·have hlc:i<t.cols.length:=O;have hnn:zx t i=t.cols[i].notNull:=by rw[zx,ybb,yag hlc]
  rw[yab hlt,jav,hnn]at hs
  cases hb:t.cols[i].notNull
  ·rw[hb,ybg,ybu]at hs;repeat' first|refine X ?_|((first|apply yG|apply yH|apply yI);exact rfl;(first|exact yax encV hk hlt|exact yax jf hk hlc))|exact yaF|refine yaS ?_ ?_<;>intro _
   all_goals first
    |exact Go.keep [1,2,5] (hrec _ _ _ O ⟨i+1,_,rfl,hlt,wb hk O,hs,rfl,rfl⟩)
    |(exfalso;simp_all;done)
  ·by_cases h0:vals[i].k=0
   ·rw[hb,h0]at hs;repeat' first|refine X ?_|((first|apply yG|apply yH|apply yI);exact rfl;(first|exact yax encV hk hlt|exact yax jf hk hlc))|exact yaF|refine yaS ?_ ?_<;>intro _
    all_goals first
     |exact .ret rfl (.bool (by rw[hs];rfl))
     |(exfalso;simp_all;done)
   ·rw[hb,beq_eq_false_iff_ne.2 h0,ybj,ybu]at hs;repeat' first|refine X ?_|((first|apply yG|apply yH|apply yI);exact rfl;(first|exact yax encV hk hlt|exact yax jf hk hlc))|exact yaF|refine yaS ?_ ?_<;>intro _
    all_goals first
     |exact Go.keep [1,2,5] (hrec _ _ _ O ⟨i+1,_,rfl,hlt,wb hk O,hs,rfl,rfl⟩)
     |(exfalso;simp_all;done)
 ·repeat' first|refine X ?_|exact yaF|refine yaS ?_ ?_<;>intro _
  rw[yad O,jav]at hs;exact .ret rfl (.bool (by rw[hs];rfl))
def za1(vals:List Val)(x:Chk):Bool:=decide (wb2 x.expr vals<1)
theorem zgq(x:Chk)(vals:List Val)(hx:x.expr.length<=34359738368)(hv:vals.length<=34359738368):Pure Tryz.prog 294 [.agg (jbm x),.c (.fp [.fz (vals.map encV)])] (.c (.bool (za1 vals x))):=by
 refine yaq [2] wdn λG=>?_;repeat' first|refine X ?_|refine yaC (zgn x.expr vals hx hv) ?_|exact yaF|refine yaS ?_ ?_<;>intro _
 exact .ret rfl (.bool rfl)
theorem jhi(t:wc)(vals:List Val)(hn:t.checks.length<=34359738368)(hx:∀c∈t.checks,c.expr.length<=34359738368)(hv:vals.length<=34359738368):Pure Tryz.prog 221 [.agg (ja t),.c (.fz (vals.map encV))] (.c (.bool (!(t.checks.any (za1 vals))))):=by
 refine yaq [2,3] wef λG=>?_;repeat' first|refine X ?_|((first|apply Go.pcallB|apply Go.spcallB|apply Qg.pcallB);(iterate 3 exact rfl);exact wi mixed jaf wan jbm (λu=>.agg (jbm u)) (λ_=>rfl) (λ_=>rfl) t.checks (za1 vals) _ [] [.fp [.fz (vals.map encV)]] hn (λj hj _=>zgq _ vals (hx _ (yaa hj)) hv);intro _ _)|exact yaF|refine yaS ?_ ?_<;>intro _
 rename_i b hb;exact .ret rfl (.bool (by rw[hb]))
theorem zfe(t:wc)(vals:List Val)(hn:t.checks.length<=3)(hx:∀c∈t.checks,jao c.expr vals.length=true)(hv:zq vals 16=true):Pure Tryz.prog 348 [.agg (ja t),.c (.fz (vals.map encV))] (.c (.bool (!(t.checks.any (za1 vals))))):=by
 refine yaq [2] we4 λG=>?_;repeat' first|refine X ?_|exact yaF|refine yaS ?_ ?_<;>intro _
 refine Go.keep [1,2,5] (Go.loops (I:=λm fr V=>∃(i:Nat) (k:Int),m=t.checks.length-i/\i<=t.checks.length/\k=i/\t.checks.any (za1 vals)=(t.checks.drop i).any (za1 vals)/\
  fr=[(1,.c (.fz (vals.map encV))),(2,.c (.fp (ja t))),(5,.c (.int .i64 k))]/\V=E G []) ?_ _ _ _ ⟨0,_,rfl,yac _,rfl,rfl,rfl,rfl⟩)
 rintro m fr V ⟨i,k,rfl,hi,hk,hs,rfl,rfl⟩ hrec;by_cases hlt:i<t.checks.length
 ·have hex:=hx _ (yaa hlt);have c1:=jd2 t.checks[i].expr vals hv hex;have hTT:wb2 t.checks[i].expr vals=jcq t.checks[i].expr vals:=by rw[wb2,jc8,hv,hex];rfl
  rw[yab hlt,List.any_cons,za1,hTT]at hs;generalize jcq t.checks[i].expr vals=T at c1 hs;by_cases h1:T<1
  ·rw[decide_eq_true h1,Bool.true_or]at hs;repeat' first|refine X ?_|((first|apply yG|apply yH|apply yI);exact rfl;(first|exact yax jbm hk hlt))|refine yaC (c1) ?_|exact yaF|refine yaS ?_ ?_<;>intro _
   all_goals first
    |exact .ret rfl (.bool (by rw[hs];rfl))
    |(exfalso;omega)
  ·rw[decide_eq_false h1,ybu]at hs;repeat' first|refine X ?_|((first|apply yG|apply yH|apply yI);exact rfl;(first|exact yax jbm hk hlt))|refine yaC (c1) ?_|exact yaF|refine yaS ?_ ?_<;>intro _
   all_goals first
    |exact Go.keep [1,2,5] (hrec _ _ _ O ⟨i+1,_,rfl,hlt,wb hk O,hs,rfl,rfl⟩)
    |(exfalso;omega)
 ·repeat' first|refine X ?_|exact yaF|refine yaS ?_ ?_<;>intro _
  rw[yad O,List.any_nil]at hs;exact .ret rfl (.bool (by rw[hs];rfl))
def zc6(cols:List Int):List Ce:=[.fz (cols.map encI)]
theorem wjk(n:Nat)(cols:List Int):∀x∈zc6 cols,Old n x:=λx hx=>by
 rw[zc6,List.mem_singleton]at hx;subst hx;refine .fz _ λi j hi hj=>?_;exact((wak _ (yaa hi)).2 _ (yaa hj)).old n
theorem wav{k N:Nat}(hl:l[k]?=some (v,ys++junk))(ho:∀e∈ys,∀x∈e,Old N x)(hN:N<=G.next+k):FrzV (E G l) N (.c (vec (G.next+k) v ys junk)) (.c (.fz ys)):=by
 refine .c (.sl _ _ _ _ _ (ys++junk) ys hN (by rw[E_at];exact hl) gx rfl (λi hi=>?_) (λi j hi hj=>?_))
 ·simp only[Nat.zero_add];rw[yarq hi]
 ·have e:(ys++junk)[0+i]'gq=ys[i]:=by
   simp only[Nat.zero_add];rw[yarq hi]
  simp only[e];exact .same _ (ho _ (yaa _) _ (yaa hj))
def jfe(vals:List Val)(r:RowD)(cols:List Int):Bool:=zab cols vals&&hasB cols (keyF cols vals) r.vals
def jn(t:wc):List (List Int):=t.key::t.uniques.map (·.cols)
def j4(rows:List RowD)(keys:List (List Int))(id:Int)(vals:List Val):List Int:=(rows.filter λr=> !(r.id==id)&&keys.any (jfe vals r)).map (·.id)
variable {keys:List (List Int)}{id:Int}
theorem jea(h:i<rows.length):j4 (rows.take (i+1)) keys id vals=j4 (rows.take i) keys id vals++if !(rows[i].id==id)&&keys.any (jfe vals rows[i])then[rows[i].id]else[]:=by
 rw[j4,yaj h,List.filter_append,yak,j4]
 congr 1
 rw[List.filter_cons,List.filter_nil];split<;>rfl
theorem zcc:(j4 rows keys id vals).length<=rows.length:=by rw[j4,yae];exact ybt _ _
theorem wiy(cols:List Int)(vals:List Val)(r:RowD)(hx:cols.length<=34359738368)(h1:InR cols vals.length)(h2:InR cols r.vals.length):Pure Tryz.prog 296 [.c (.fz (cols.map encI)),.c (.fp [.fz (vals.map encV)]),.c (.fp (jc r))] (.c (.bool (jfe vals r cols))):=by
 refine yaq [] we2 λG=>?_;have c1:=zep cols vals hx h1;have c2:=wil cols r.vals (keyF cols vals) hx h2;rw[jfe];generalize keyF cols vals=ks at c1 c2⊢;generalize hasB cols ks r.vals=b at c2⊢
 cases hw:zab cols vals
 ·rw[hw]at c1;repeat' first|refine X ?_|refine yaC (c1) ?_|exact yaF|refine yaS ?_ ?_<;>intro _
  exact .ret rfl (.bool rfl)
 ·rw[hw]at c1;repeat' first|refine X ?_|refine yaC (c1) ?_|refine yaC (c2) ?_|exact yaF|refine yaS ?_ ?_<;>intro _
  exact .ret rfl (.bool rfl)
def wcs(rows:List RowD)(r:RowD)(cols:List Int):Bool:=zab cols r.vals&&(w8 rows cols (keyF cols r.vals)).any λid=> !(id==r.id)
theorem zf4(d:Data)(cols:List Int)(r:RowD)(hr:d.rows.length<=1048576)(hx:cols.length<=34359738368)(hv:InR cols r.vals.length)(hi:∀q∈d.rows,InR cols q.vals.length):Pure Tryz.prog 373 [.agg (wa d),.c (.fz (cols.map encI)),.agg (jc r)] (.c (.bool (wcs d.rows r cols))):=by
 refine yaq [3,5] wfu λG=>?_;have c1:=wbi cols r.vals hx hv;have c2:=wfd d cols (keyF cols r.vals) hr hx hi;have hl:=wcz (rows:=d.rows) (cols:=cols) (key:=keyF cols r.vals);rw[wcs];generalize w8 d.rows cols (keyF cols r.vals)=ids at c2 hl⊢;generalize keyF cols r.vals=ks at c1 c2
 cases hw:zab cols r.vals
 ·rw[hw]at c1;repeat' first|refine X ?_|refine yaC (c1) ?_|exact yaF|refine yaS ?_ ?_<;>intro _
  exact .ret rfl (.bool rfl)
 rw[hw]at c1;rw[yav];repeat' first|refine X ?_|refine yaC (c1) ?_|refine yaC (c2) ?_|exact yaF|refine yaS ?_ ?_<;>intro _
 refine Go.keep [5,9,10] (Go.loops (I:=λm fr V=>∃(i:Nat) (k:Int),m=ids.length-i/\i<=ids.length/\k=i/\(ids.any λid=> !(id==r.id))=((ids.drop i).any λid=> !(id==r.id))/\
  fr=[(5,.c (.fp (jc r))),(9,.c (.fz (ids.map encI))),(10,.c (.int .i64 k))]/\V=E G []) ?_ _ _ _ ⟨0,_,rfl,yac _,rfl,rfl,rfl,rfl⟩)
 rintro m fr V ⟨i,k,rfl,hile,hk,hs,rfl,rfl⟩ hrec;by_cases hlt:i<ids.length
 ·rw[yab hlt,List.any_cons]at hs;by_cases h0:ids[i]=r.id
  ·rw[beq_iff_eq.2 h0,Bool.not_true,ybu]at hs;repeat' first|refine X ?_|((first|apply yG|apply yH|apply yI);exact rfl;(first|exact yax encI hk hlt))|exact yaF|refine yaS ?_ ?_<;>intro _
   all_goals first
    |exact Go.keep [5,9,10] (hrec _ _ _ O ⟨i+1,_,rfl,hlt,wb hk O,hs,rfl,rfl⟩)
    |(exfalso;simp_all;done)
  ·rw[beq_eq_false_iff_ne.2 h0,Bool.not_false,Bool.true_or]at hs;repeat' first|refine X ?_|((first|apply yG|apply yH|apply yI);exact rfl;(first|exact yax encI hk hlt))|exact yaF|refine yaS ?_ ?_<;>intro _
   all_goals first
    |exact .ret rfl (.bool hs.symm)
    |(exfalso;simp_all;done)
 ·repeat' first|refine X ?_|exact yaF|refine yaS ?_ ?_<;>intro _
  rw[yad O,List.any_nil]at hs;exact .ret rfl (.bool hs.symm)
theorem wfe(t:wc)(d:Data)(r:RowD)(hr:d.rows.length<=1048576)(hu:t.uniques.length<=3)(hx:∀k∈jn t,k.length<=34359738368)(hv:∀k∈jn t,InR k r.vals.length)(hi:∀k∈jn t,∀r∈d.rows,InR k r.vals.length):
 Pure Tryz.prog 349 [.agg (ja t),.agg (wa d),.agg (jc r)] (.c (.bool (!((jn t).any (wcs d.rows r))))):=by
 refine yaq [3,4,5] ze5 λG=>?_;have hk0:t.key∈jn t:=by simp[jn]
 have c1:=zf4 d t.key r hr (hx _ hk0) (hv _ hk0) (hi _ hk0);rw[jn,List.any_cons,List.any_map]
 cases hb:wcs d.rows r t.key
 ·rw[hb]at c1;rw[ybu];repeat' first|refine X ?_|refine yaC (c1) ?_|exact yaF|refine yaS ?_ ?_<;>intro _
  refine Go.keep [3,4,5,7] (Go.loops (I:=λm fr V=>∃(i:Nat) (k:Int),m=t.uniques.length-i/\i<=t.uniques.length/\k=i/\(t.uniques.any (wcs d.rows r∘(·.cols)))=((t.uniques.drop i).any (wcs d.rows r∘(·.cols)))/\
   fr=[(3,.c (.fp (ja t))),(4,.c (.fp (wa d))),(5,.c (.fp (jc r))),(7,.c (.int .i64 k))]/\V=E G []) ?_ _ _ _ ⟨0,_,rfl,yac _,rfl,rfl,rfl,rfl⟩)
  rintro m fr V ⟨i,k,rfl,hile,hk,hs,rfl,rfl⟩ hrec;by_cases hlt:i<t.uniques.length
  ·have hki:t.uniques[i].cols∈jn t:=by rw[jn];exact List.mem_cons_of_mem _ (List.mem_map.2 ⟨_,yaa hlt,rfl⟩)
   have c2:=zf4 d t.uniques[i].cols r hr (hx _ hki) (hv _ hki) (hi _ hki);rw[yab hlt,List.any_cons,Function.comp_apply]at hs
   cases hq:wcs d.rows r t.uniques[i].cols
   ·rw[hq]at c2 hs;rw[ybu]at hs;repeat' first|refine X ?_|((first|apply yG|apply yH|apply yI);exact rfl;(first|exact yax zaz hk hlt))|refine yaC (c2) ?_|exact yaF|refine yaS ?_ ?_<;>intro _
    exact Go.keep [3,4,5,7] (hrec _ _ _ O ⟨i+1,_,rfl,hlt,wb hk O,hs,rfl,rfl⟩)
   ·rw[hq]at c2 hs;rw[Bool.true_or]at hs;repeat' first|refine X ?_|((first|apply yG|apply yH|apply yI);exact rfl;(first|exact yax zaz hk hlt))|refine yaC (c2) ?_|exact yaF|refine yaS ?_ ?_<;>intro _
    exact .ret rfl (.bool (by rw[hs];rfl))
  ·repeat' first|refine X ?_|exact yaF|refine yaS ?_ ?_<;>intro _
   rw[yad O,List.any_nil]at hs;exact .ret rfl (.bool (by rw[hs];rfl))
 ·rw[hb]at c1;repeat' first|refine X ?_|refine yaC (c1) ?_|exact yaF|refine yaS ?_ ?_<;>intro _
  exact .ret rfl (.bool rfl)
def ziz(s:List wc)(f:Fk):Int:=idxA (λu:wc=>u.name==f.table) s 0
def jlg(s:List wc)(n:Int):List Int:=match s[n.toNat]? with|some u=>u.key|none=>[]
def zh8(s:List wc)(db:List Data)(f:Fk)(vals:List Val):Bool:=zab f.cols vals&&(((w8 (wks db (ziz s f)) (jlg s (ziz s f)) (keyF f.cols vals)).length:Int)==0)
structure FkR(s:List wc)(db:List Data)(vals:List Val)(f:Fk)(n:Nat):Prop where
 lt:n<s.length
 lt2:n<db.length
 idx:ziz s f=(n:Int)
 rows:db[n].rows.length<=1048576
 key:s[n].key.length<=34359738368
 cols:f.cols.length<=34359738368
 own:InR f.cols vals.length
 far:∀r∈db[n].rows,InR s[n].key r.vals.length
theorem FkR.val(h:FkR s db vals f n):zh8 s db f vals=(zab f.cols vals&&(((w8 (db[n]'h.lt2).rows (s[n]'h.lt).key (keyF f.cols vals)).length:Int)==0)):=by
 rw[zh8,h.idx,wks,jlg,ybb,yag h.lt,yag h.lt2]
theorem zjl(s:List wc)(db:List Data)(f:Fk)(vals:List Val)(n:Nat)(hs:s.length<=34359738368)(h:FkR s db vals f n):Pure Tryz.prog 300 [.c (.fz (s.map ja)),.c (.fz (db.map wa)),.agg (wal f),.c (.fz (vals.map encV))] (.c (.bool (zh8 s db f vals))):=by
 refine yaq [6] zgj λG=>?_;have c1:=jae s f.table hs;have hidx:idxA (λu:wc=>u.name==f.table) s 0=(n:Int):=h.idx;rw[hidx]at c1;have c2:=zep f.cols vals h.cols h.own;have hlt:=h.lt;have hlt2:=h.lt2;have c3:=wkd db[n].rows s[n].key (keyF f.cols vals) h.rows h.key h.far;rw[h.val];generalize w8 db[n].rows s[n].key (keyF f.cols vals)=ids at c3⊢;generalize keyF f.cols vals=ks at c2 c3
 cases hw:zab f.cols vals
 ·rw[hw]at c2;repeat' first|refine X ?_|refine yaC (c1) ?_|refine yaC (c2) ?_|exact yaF|refine yaS ?_ ?_<;>intro _
  exact .ret rfl (.bool rfl)
 ·rw[hw]at c2;repeat' first|refine X ?_|((first|apply yG|apply yH|apply yI);exact rfl;(first|exact yax ja rfl hlt|exact yax wa rfl hlt2))|refine yaC (c1) ?_|refine yaC (c2) ?_|refine yaC (c3) ?_|exact yaF|refine yaS ?_ ?_<;>intro _
  exact .ret rfl (.bool rfl)
theorem jh8(s:List wc)(db:List Data)(f:Fk)(vals:List Val)(n:Nat)(hs:s.length<=34359738368)(h:FkR s db vals f n):Pure Tryz.prog 364 [.c (.fz (s.map ja)),.c (.fz (db.map wa)),.agg (wal f),.c (.fz (vals.map encV))] (.c (.bool (!zh8 s db f vals))):=by
 refine yaq [6] ze6 λG=>?_;have c1:=zcq s f.table hs;have hidx:idxA (λu:wc=>u.name==f.table) s 0=(n:Int):=h.idx;rw[hidx]at c1;have c2:=wbi f.cols vals h.cols h.own;have hlt:=h.lt;have hlt2:=h.lt2;have c3:=wfd db[n] s[n].key (keyF f.cols vals) h.rows h.key h.far;rw[h.val];generalize w8 db[n].rows s[n].key (keyF f.cols vals)=ids at c3⊢;generalize keyF f.cols vals=ks at c2 c3
 cases hw:zab f.cols vals
 ·rw[hw]at c2;repeat' first|refine X ?_|refine yaC (c1) ?_|refine yaC (c2) ?_|exact yaF|refine yaS ?_ ?_<;>intro _
  exact .ret rfl (.bool rfl)
 ·rw[hw]at c2;repeat' first|refine X ?_|((first|apply yG|apply yH|apply yI);exact rfl;(first|exact yax ja rfl hlt|exact yax wa rfl hlt2))|refine yaC (c1) ?_|refine yaC (c2) ?_|refine yaC (c3) ?_|exact yaF|refine yaS ?_ ?_<;>intro _
  refine .ret rfl (.bool ?_);rw[yav];by_cases h0:(ids.length:Int)=0
  ·rw[beq_iff_eq.2 h0];exact decide_eq_false O
  ·rw[beq_eq_false_iff_ne.2 h0];exact decide_eq_true O
def zo(s:List wc)(db:List Data)(df:Bool)(vals:List Val)(f:Fk):Bool:=(df|| !f.deferred)&&zh8 s db f vals
theorem jgq(s:List wc)(db:List Data)(f:Fk)(vals:List Val)(df:Bool)(n:Nat)(hs:s.length<=34359738368)(h:FkR s db vals f n):Pure Tryz.prog 299 [.agg (wal f),.c (.fp [.bool df]),.c (.fp [.fz (s.map ja)]),.c (.fp [.fz (db.map wa)]),.c (.fp [.fz (vals.map encV)])] (.c (.bool (zo s db df vals f))):=by
 refine yaq [5] zdo λG=>?_;have c1:=zjl s db f vals n hs h;rw[zo];generalize zh8 s db f vals=b at c1⊢
 cases df
 ·cases hd:f.deferred
  ·repeat' first|refine X ?_|refine yaC (c1) ?_|exact yaF|refine yaS ?_ ?_<;>intro _
   all_goals first
    |exact .ret rfl (.bool rfl)
    |(exfalso;simp_all;done)
    |(refine .ret rfl (.bool ?_);simp_all;done)
  ·repeat' first|refine X ?_|refine yaC (c1) ?_|exact yaF|refine yaS ?_ ?_<;>intro _
   all_goals first
    |exact .ret rfl (.bool rfl)
    |(exfalso;simp_all;done)
    |(refine .ret rfl (.bool ?_);simp_all;done)
 ·repeat' first|refine X ?_|refine yaC (c1) ?_|exact yaF|refine yaS ?_ ?_<;>intro _
  all_goals first
   |exact .ret rfl (.bool rfl)
   |(exfalso;simp_all;done)
   |(refine .ret rfl (.bool ?_);simp_all;done)
theorem wea(s:List wc)(db:List Data)(t:wc)(vals:List Val)(df:Bool)(hs:s.length<=34359738368)(hn:t.fks.length<=34359738368)(h:∀f∈t.fks,∃n,FkR s db vals f n):Pure Tryz.prog 223 [.c (.fz (s.map ja)),.c (.fz (db.map wa)),.agg (ja t),.c (.fz (vals.map encV)),.c (.bool df)] (.c (.bool (t.fks.any (zo s db df vals)))):=by
 refine yaq [5,6,7,8,9] jeg λG=>?_;have cc:=wi mixed w7 jad wal (λu=>.agg (wal u)) (λ_=>rfl) (λ_=>rfl) t.fks (zo s db df vals) 299 [] [.fp [.bool df],.fp [.fz (s.map ja)],.fp [.fz (db.map wa)],.fp [.fz (vals.map encV)]] hn (λj hj _=>by
  obtain⟨n,hq⟩:=h _ (yaa hj);exact jgq s db _ vals df n hs hq)
 generalize t.fks.any (zo s db df vals)=b at cc⊢;repeat' first|refine X ?_|refine yaC (cc) ?_|exact yaF|refine yaS ?_ ?_<;>intro _
 exact .ret rfl (.bool rfl)
theorem wa6(s:List wc)(db:List Data)(q:Int)(m:Nat)(vals:List Val)(now:Bool)(hs:s.length<=34359738368)(hq:q=(m:Int))(hm:m<s.length)(hn:s[m].fks.length<=3)(h:∀f∈s[m].fks,∃n,FkR s db vals f n):Pure Tryz.prog 325 [.c (.fz (s.map ja)),.c (.fz (db.map wa)),.c (.int .i64 q),.c (.fz (vals.map encV)),.c (.bool now)] (.c (.bool (!(s[m].fks.any (zo s db (!now) vals))))):=by
 refine yaq [] ze4 λG=>?_;repeat' first|refine X ?_|exact yaF|refine yaS ?_ ?_<;>intro _
 refine Go.keep [0,1,2,3,4,11] (Go.loops (I:=λmm fr V=>∃(i:Nat) (k:Int),mm=s[m].fks.length-i/\i<=s[m].fks.length/\k=i/\s[m].fks.any (zo s db (!now) vals)=(s[m].fks.drop i).any (zo s db (!now) vals)/\
  fr=[(0,.c (.fz (s.map ja))),(1,.c (.fz (db.map wa))),(2,.c (.int .i64 q)),(3,.c (.fz (vals.map encV))),(4,.c (.bool now)),(11,.c (.int .i64 k))]/\V=E G []) ?_ _ _ _ ⟨0,_,rfl,yac _,rfl,rfl,rfl,rfl⟩)
 rintro mm fr V ⟨i,k,rfl,hi,hk,hsq,rfl,rfl⟩ hrec;by_cases hlt:i<s[m].fks.length
 ·obtain⟨n,hr⟩:=h _ (yaa hlt);have c1:=jh8 s db s[m].fks[i] vals n hs hr;rw[yab hlt,List.any_cons,zo]at hsq;generalize zh8 s db s[m].fks[i] vals=b at c1 hsq;have skip:(s[m].fks.any (zo s db (!now) vals)=(s[m].fks.drop (i+1)).any (zo s db (!now) vals))->∀fr V,fr=[(0,AV.c (.fz (s.map ja))),(1,.c (.fz (db.map wa))),(2,.c (.int .i64 q)),(3,.c (.fz (vals.map encV))),(4,.c (.bool now)),(11,.c (.int .i64 (IntKind.i64.wrap (k+1))))]->V=E G []->_:=λe fr V h1 h2=>hrec (s[m].fks.length-(i+1)) fr V O ⟨i+1,_,rfl,hlt,wb hk O,e,h1,h2⟩;clear hrec
  cases now<;>cases hd:s[m].fks[i].deferred<;>cases b
  all_goals
   repeat' first|refine X ?_|((first|apply yG|apply yH|apply yI);exact rfl;(first|exact yax ja hq hm|exact yax wal hk hlt))|refine yaC (c1) ?_|exact yaF|refine yaS ?_ ?_<;>intro _
   all_goals first
    |(refine Go.keep [0,1,2,3,4,11] (skip ?_ _ _ rfl rfl);simp_all;done)
    |(refine .ret rfl (.bool ?_);simp_all;done)
    |(exfalso;simp_all;done)
 ·repeat' first|refine X ?_|((first|apply yG|apply yH|apply yI);exact rfl;(first|exact yax ja hq hm))|exact yaF|refine yaS ?_ ?_<;>intro _
  rw[yad O,List.any_nil]at hsq;exact .ret rfl (.bool (by rw[hsq];rfl))
structure RowR(s:List wc)(db:List Data)(t:wc)(r:RowD):Prop where
 len:r.vals.length=t.cols.length
 are:zq r.vals 16=true
 fks:∀f∈t.fks,∃n,FkR s db r.vals f n
structure TabR(s:List wc)(db:List Data)(t:wc)(d:Data):Prop where
 tab:whh t
 rows:d.rows.length<=60
 row:∀r∈d.rows,RowR s db t r
 keys:∀k∈jn t,k.length<=34359738368
 inr:∀k∈jn t,InR k t.cols.length
 chk:∀c∈t.checks,c.expr.length<=34359738368
theorem zkt(h:dbF s db=true)(hb:∀t∈s,wad 34359738368 t){i:Nat}(hi:i<s.length)(hi2:i<db.length):TabR s db s[i] db[i]:=by
 obtain⟨hs,hl,hrows⟩:=wbv h;have hT:=wcb hs;have hrow:=jb4 (hrows i hi hi2);have hti:=hT _ (yaa hi);have hbi:=hb _ (yaa hi);have hkey:∀k∈jn s[i],k.length<=34359738368/\InR k s[i].cols.length:=λk hk=>by
  rw[jn]at hk;rcases List.mem_cons.1 hk with rfl|hk
  ·exact⟨hbi.2.2.1,hti.key⟩
  ·obtain⟨u,hu,rfl⟩:=List.mem_map.1 hk;exact⟨hbi.2.2.2.1.2 u hu,hti.uniq u hu⟩
 refine⟨hti,hrow.1,λr hr=>?_,λk hk=>(hkey k hk).1,λk hk=>(hkey k hk).2,λc hc=>(hbi.2.2.2.2.1.2 c hc).1⟩;have hfit:=(hrow.2 r hr).1;refine⟨(j6 hfit).1,za9 hfit hti.cols8,λf hf=>?_⟩;have hmet:metF s s[i] f=true:=by
  simp only[wl,Bool.and_eq_true,Bool.not_eq_true',List.any_eq_false,Bool.not_eq_true,Bool.not_eq_false']at hs;simpa using hs.2.2 _ (List.getElem_mem hi) f hf
 simp only[metF,Bool.and_eq_true]at hmet;rcases zbn (p:=λu:wc=>u.name==f.table) (l:=s) (i:=0) (yaz _)with hx|⟨n,hn,hx,hp⟩
 ·exfalso;have:=jbl (p:=λu:wc=>u.name==f.table) (l:=s);rw[hx,hmet.1]at this;exact absurd this gb
 ·have hn2:n<db.length:=O;have htn:=hT _ (yaa hn);have hrn:=jb4 (hrows n hn hn2);exact⟨n,hn,hn2,by rw[ziz,hx];omega,O,(hb _ (yaa hn)).2.2.1,(hbi.2.2.2.2.2.2 f hf).1,by rw[(j6 hfit).1];exact hti.fk f hf,λq hq=>by rw[(j6 (hrn.2 q hq).1).1];exact htn.key⟩
theorem jcc(xs:List Val)(hx:xs.length<=34359738368):jir Tryz.prog 162 [.c (.fz (xs.map encV))] 3 (xs.map encV):=by
 refine jir.run mixed wc3 gz λG hS hA=>?_;clear hS hA;repeat' first|refine X ?_|exact yaF|refine yaS ?_ ?_<;>intro _
 refine Go.app (ys:=[]) (junk:=[]) (zs:=xs.map encV) rfl rfl rfl rfl rfl gx Jk.nil (λe he=>(zag e he).1) gq λv junk hj=>?_;repeat' first|refine X ?_|exact yaF|refine yaS ?_ ?_<;>intro _
 exact .ret rfl ⟨v,junk,hj,rfl,rfl⟩
def Rise(l:List RowD):Prop:=l.Pairwise λa b=>a.id<b.id
theorem zeb{t:wc}:∀{l:List RowD} {p:Option Int},wae t p l=true->Rise l/\∀q,p=some q->∀r∈l,q<r.id
 |[],p,_=>⟨.nil,λq _ r hr=>by simp at hr⟩
 |a::l,p,h=>by
  rw[wae,yau]at h;obtain⟨h1,h2⟩:=zeb h.2;have h3:=h2 a.id rfl;refine⟨List.pairwise_cons.2 ⟨h3,h1⟩,λq hq r hr=>?_⟩;subst hq;have h4:q<a.id:=by
   have:=h.1;simp only[jcg,wbn,Bool.and_eq_true,decide_eq_true_eq]at this;exact this.2.1
  rcases List.mem_cons.1 hr with rfl|hr
  ·exact h4
  ·exact Int.lt_trans h4 (h3 r hr)
theorem jf4{l:List RowD}(h:wdf t l=true):Rise l:=by
 rw[wdf,yau]at h;exact(zeb h.1).1
theorem jd3(l:List RowD):OldL n (l.map jc):=λe he c hc=>by
 obtain⟨a,_,rfl⟩:=List.mem_map.1 he;simp only[jc,List.mem_cons,List.not_mem_nil,or_false]at hc;rcases hc with rfl|rfl
 ·exact .int _ _
 ·exact jl (j8 jc5)
theorem wag(l:List Data):OldL n (l.map wa):=λe he c hc=>by
 obtain⟨a,_,rfl⟩:=List.mem_map.1 he;simp only[wa,List.mem_cons,List.not_mem_nil,or_false]at hc;subst hc;exact jl (jd3 _)
theorem wat{l:List RowD}:∀e∈l.map jc,e.length=2:=λe he=>by
 obtain⟨a,_,rfl⟩:=List.mem_map.1 he
 rfl
theorem zke{l:List Data}:∀e∈l.map wa,e.length=1:=λe he=>by
 obtain⟨a,_,rfl⟩:=List.mem_map.1 he
 rfl
theorem Go.stold{P:Program}{n0 nt:Nat}{d:Option Nat}{f:Opd}{args:List Opd}{g:Option (Nat×Bool)}{rest:List (List jd)}{pre cap:List Ce}{vs:List AV}{Z:AV->Prop}(hw:wants fr g=some true)(hf:f.ev fr=some (.c (.fn n pre cap)))(ha:evs fr args=some vs)
 (hp:Told P n (pre.map .c++vs++cap.map .c) Z) (h:∀r,Z r->Go P n0 nt rets R (.segs rest::K) (putA fr d r) G):Go P n0 nt rets R (.segs ([⟨d,.call f args,g⟩]::rest)::K) fr G:=
 .scall _ hw hf ha (hp.at_ G) (by rintro r' G' ⟨hz,rfl⟩;exact h r' hz)
theorem zbo(xs:List Val)(hx:xs.length<=34359738368):Pure Tryz.prog 162 [.c (.fz (xs.map encV))] (.c (.fz (xs.map encV))):=
 NewV.pure λG=>((jcc xs hx).at_ G).mono λr V ⟨v,junk,hj,h1,h2⟩=>by
  subst h1 h2;exact wcg zag hj
theorem jjl(t:wc)(vals:List Val)(hl:vals.length=t.cols.length)(hT:whh t)(hv:zq vals 16=true):Told Tryz.prog 321 [.agg (ja t),.c (.fz (vals.map encV))] AnyI:=by
 refine Told.run mixed zcg gz λG hS=>?_;clear hS;have c1:=wf3 t vals hl hT.cols8;have c2:=zfe t vals hT.chk3 (λc hc=>by rw[hl];exact hT.chk c hc) hv;generalize (!jav t 0 vals)=B1 at c1;generalize (!(t.checks.any (za1 vals)))=B2 at c2
 cases B1
 ·repeat' first|refine X ?_|refine yaC (c1) ?_|exact yaF|refine yaS ?_ ?_<;>intro _
  exact .ret rfl ⟨_,⟨_,rfl⟩,.int rfl⟩
 cases B2
 ·repeat' first|refine X ?_|refine yaC (c1) ?_|refine yaC (c2) ?_|exact yaF|refine yaS ?_ ?_<;>intro _
  exact .ret rfl ⟨_,⟨_,rfl⟩,.int rfl⟩
 ·repeat' first|refine X ?_|refine yaC (c1) ?_|refine yaC (c2) ?_|exact yaF|refine yaS ?_ ?_<;>intro _
  exact .ret rfl ⟨_,⟨_,rfl⟩,.int rfl⟩
theorem Rise.last{l:List RowD}(h:Rise l)(h0:0<l.length){q:RowD}(hq:q∈l):q.id<=l[l.length-1].id:=by
 obtain⟨i,hi,rfl⟩:=ybr hq;by_cases e:i=l.length-1
 ·subst e;exact yaz _
 ·exact Int.le_of_lt (List.pairwise_iff_getElem.1 h i (l.length-1) hi O O)
theorem wjl(d:Data)(hr:Rise d.rows)(hn:d.rows.length<=60)(hid:∀r∈d.rows,1<=r.id/\r.id<=1000000000):Told Tryz.prog 164 [.agg (wa d)] (λr=>∃k:Int,1<=k/\k<=1000000001/\(∀q∈d.rows,q.id<k)/\r=.c (.int .i64 k)):=by
 refine Told.run mixed jcf gz λG hS=>?_;clear hS;by_cases h0:0<d.rows.length
 ·have h1:IntKind.i64.wrap ((d.rows.length:Int)-1)=((d.rows.length-1:Nat):Int):=by rw[zk O O];omega
  have hlt:d.rows.length-1<d.rows.length:=O;have hne:¬(d.rows.length:Int)=0:=O;have hi:=hid _ (yaa hlt);repeat' first|refine X ?_|((first|apply yG|apply yH|apply yI);exact rfl;(first|exact yax jc h1 hlt))|exact yaF|refine yaS ?_ ?_<;>intro _
  refine .ret rfl ⟨_,⟨d.rows[d.rows.length-1].id+1,O,O,λq hq=>?_,rfl⟩,.int (zk O O)⟩;have:=hr.last h0 hq;omega
 ·have he:(d.rows.length:Int)=0:=O;repeat' first|refine X ?_|exact yaF|refine yaS ?_ ?_<;>intro _
  refine .ret rfl ⟨_,⟨1,O,O,λq hq=>?_,rfl⟩,.int rfl⟩;rw[yan (show d.rows.length=0 by omega)]at hq
  cases hq
structure jiz(t:wc)(d:Data)(x:RowD):Prop where
 uniq:t.uniques.length<=3
 len:∀k∈jn t,k.length<=34359738368
 own:∀k∈jn t,InR k x.vals.length
 far:∀k∈jn t,∀r∈d.rows,InR k r.vals.length
def IdsT(n:Nat)(r:AV):Prop:=∃ids:List Int,ids.length<=n/\r=.c (.fz (ids.map encI))
theorem zjm:∀e∈xs.map encI,∀x∈e,Flat x:=λe he=>(wak e he).2
theorem wh8(t:wc)(d:Data)(x:RowD)(hd:d.rows.length<=60)(hK:jiz t d x):Told Tryz.prog 363 [.agg (ja t),.agg (wa d),.agg (jc x)] (IdsT 60):=by
 refine Told.run mixed zbv gz λG hS=>?_;clear hS;repeat' first|refine X ?_|exact yaF|refine yaS ?_ ?_<;>intro _
 refine Go.keep [3,4,5,7,8] (Go.loops (I:=λm fr V=>∃(i:Nat) (k:Int) (ids:List Int) (v:Nat) (junk:List (List Ce)),m=d.rows.length-i/\i<=d.rows.length/\k=i/\Jk 1 junk/\ids.length<=i/\
  fr=[(3,.c (.fp (ja t))),(4,.c (.fp (wa d))),(5,.c (.fp (jc x))),(7,.c (vec (G.next+0) v (ids.map encI) junk)),(8,.c (.int .i64 k))]/\V=E G [(v,ids.map encI++junk)]) ?_ _ _ _ ⟨0,_,[],0,[],rfl,yac _,rfl,Jk.nil,yac _,rfl,rfl⟩)
 rintro m fr V ⟨i,k,ids,v,junk,rfl,hi,hk,hj,hil,rfl,rfl⟩ hrec;by_cases hlt:i<d.rows.length
 ·have hbd:((ids.map encI).length+1)*8<=140737488355328:=by rw[yae];omega
  have hz1:∀e∈ids.map encI,e.length=1:=λe he=>(wak e he).1;have e1:ids.map encI++[encI d.rows[i].id]=(ids++[d.rows[i].id]).map encI:=gx;have c1:=wfe t ⟨[d.rows[i]]⟩ x gx hK.uniq hK.len hK.own (λk hk r hr=>by
   have hr2:r=d.rows[i]:=by simpa using hr
   rw[hr2];exact hK.far k hk _ (yaa hlt))
  generalize (!((jn t).any (wcs (Data.rows ⟨[d.rows[i]]⟩) x)))=B at c1;by_cases h0:d.rows[i].id=x.id
  ·repeat' first|refine X ?_|((first|apply yG|apply yH|apply yI);exact rfl;(first|exact yax jc hk hlt))|exact yaF|refine yaS ?_ ?_<;>intro _
   exact Go.keep [3,4,5,7,8] (hrec _ _ _ O ⟨i+1,_,ids,v,junk,rfl,hlt,wb hk O,hj,O,rfl,rfl⟩)
  ·cases B
   ·repeat' first|refine X ?_|((first|apply yG|apply yH|apply yI);exact rfl;(first|exact yax jc hk hlt))|(apply Go.app1;exact rfl;exact rfl;exact rfl;exact rfl;exact rfl;exact hz1;exact hj;exact rfl;exact hbd;intro v' junk' hj')|refine yaC (c1) ?_|exact yaF|refine yaS ?_ ?_<;>intro _
    refine Go.keep [3,4,5,7,8] (hrec _ _ _ O ⟨i+1,_,ids++[d.rows[i].id],v',junk',rfl,hlt,wb hk O,hj',by simp;omega, ?_, ?_⟩)
    ·rw[<-e1];rfl
    ·rw[<-e1];rfl
   ·repeat' first|refine X ?_|((first|apply yG|apply yH|apply yI);exact rfl;(first|exact yax jc hk hlt))|refine yaC (c1) ?_|exact yaF|refine yaS ?_ ?_<;>intro _
    exact Go.keep [3,4,5,7,8] (hrec _ _ _ O ⟨i+1,_,ids,v,junk,rfl,hlt,wb hk O,hj,O,rfl,rfl⟩)
 ·repeat' first|refine X ?_|exact yaF|refine yaS ?_ ?_<;>intro _
  exact .ret rfl ⟨_,⟨ids,O,rfl⟩,_,rfl,wbt (n:=0) (k:=0) rfl zjm (yac _) (yaf _)⟩
theorem wiz(s:List wc)(db:List Data)(q:Int)(n:Nat)(x:RowD)(hq:q=(n:Int))(hn:n<s.length)(hn2:n<db.length)(hd:db[n].rows.length<=60)(hK:jiz s[n] db[n] x):Told Tryz.prog 322 [.c (.fz (s.map ja)),.c (.fz (db.map wa)),.c (.int .i64 q),.agg (jc x),.c (.bool false),.c (.int .i64 0)] (λr=>r=.tup [.c (.fz (db.map wa)),.c (.int .i64 0)]\/r=.tup [.c .nils,.c (.int .i64 4)]):=by
 refine Told.run mixed jb1 gz λG hS=>?_;clear hS;repeat' first|refine X ?_|((first|apply yG|apply yH|apply yI);exact rfl;(first|exact yax ja hq hn|exact yax wa hq hn2))|exact yaF|refine yaS ?_ ?_<;>intro _
 refine Go.stold rfl rfl rfl (wh8 s[n] db[n] x hd hK) ?_;rintro _ ⟨ids,hl,rfl⟩;by_cases h0:0<ids.length
 ·repeat' first|refine X ?_|exact yaF|refine yaS ?_ ?_<;>intro _
  exact .ret rfl ⟨_,.inr rfl,_,rfl,.tup rfl λi hi=>by
   have:i=0\/i=1:=by simp at hi;omega
   rcases this with rfl|rfl
   ·exact .c (.same _ .nils)
   ·exact .c (.same _ (.int _ _))⟩
 ·have he:(ids.length:Int)=0:=O;repeat' first|refine X ?_|exact yaF|refine yaS ?_ ?_<;>intro _
  apply Go.loop;repeat' first|refine X ?_|exact yaF|refine yaS ?_ ?_<;>intro _
  exact .ret rfl ⟨_,.inl rfl,_,rfl,.tup rfl λi hi=>by
   have:i=0\/i=1:=by simp at hi;omega
   rcases this with rfl|rfl
   ·exact .c (.same _ (jl (wag _)))
   ·exact .c (.same _ (.int _ _))⟩
theorem jke(d:Data)(x:RowD)(hd:d.rows.length<=60)(hx:∀q∈d.rows,q.id<x.id):Pure Tryz.prog 324 [.agg (wa d),.agg (jc x)] (.agg (wa ⟨d.rows++[x]⟩)):=by
 refine yas wcn λG=>?_;repeat' first|refine X ?_|exact yaF|refine yaS ?_ ?_<;>intro _
 refine Go.keep [2,3,4,5,6,7] (Go.loops (I:=λm fr V=>∃(i:Nat) (k:Int) (v:Nat) (junk:List (List Ce)),m=d.rows.length-i/\i<=d.rows.length/\k=i/\Jk 2 junk/\
  fr=[(2,.c (.fp (wa d))),(3,.c (.fp (jc x))),(4,.c (.ptr (G.next+0) 0 0 0)),(5,.c (vec (G.next+1) v ((d.rows.take i).map jc) junk)),(6,.c (.bool false)),(7,.c (.int .i64 k))]/\V=E G [(0,[[.nils]]),(v,(d.rows.take i).map jc++junk)]) ?_ _ _ _ ⟨0,_,0,[],rfl,yac _,rfl,Jk.nil,rfl,rfl⟩)
 rintro m fr V ⟨i,k,v,junk,rfl,hi,hk,hj,rfl,rfl⟩ hrec;have hbd:(((d.rows.take i).map jc).length+1)*32<=140737488355328:=by rw[yae,yat];omega
 by_cases hlt:i<d.rows.length
 ·have hid:=hx _ (yaa hlt);have e1:(d.rows.take i).map jc++[jc d.rows[i]]=(d.rows.take (i+1)).map jc:=by rw[yaj hlt,yak];rfl
  have hng:¬d.rows[i].id≥x.id:=O;have hne:¬d.rows[i].id=x.id:=O;repeat' first|refine X ?_|((first|apply yG|apply yH|apply yI);exact rfl;(first|exact yax jc hk hlt))|(apply Go.app1;exact rfl;exact rfl;exact rfl;exact rfl;exact rfl;exact wat;exact hj;exact rfl;exact hbd;intro v' junk' hj')|exact yaF|refine yaS ?_ ?_<;>intro _
  all_goals first
   |(exfalso;omega)
   |skip
  refine Go.keep [2,3,4,5,6,7] (hrec _ _ _ O ⟨i+1,_,v',junk',rfl,hlt,wb hk O,hj', ?_, ?_⟩)
  ·rw[<-e1];rfl
  ·rw[<-e1];rfl
 ·repeat' first|refine X ?_|(apply Go.app1;exact rfl;exact rfl;exact rfl;exact rfl;exact rfl;exact wat;exact hj;exact rfl;exact hbd;intro v' junk' hj')|exact yaF|refine yaS ?_ ?_<;>intro _
  refine .ret (zay rfl rfl rfl (yac _) rfl) ⟨_,rfl,.agg rfl λj hj0=>?_⟩;have hj1:j=0:=by simp at hj0;omega
  subst hj1;have e1:(d.rows.take i).map jc++[jc x]=(d.rows++[x]).map jc:=by rw[yao O,yak];rfl
  have hz:FrzV (E G [(0,[[vec (G.next+1) v' ((d.rows.take i).map jc++[jc x]) junk']]),(v',(d.rows.take i).map jc++[jc x]++junk')]) G.next (.c (vec (G.next+1) v' ((d.rows.take i).map jc++[jc x]) junk')) (.c (.fz ((d.rows.take i).map jc++[jc x]))):=
   wav (k:=1) rfl (by rw[e1];exact jd3 _) (ybc _ _)
  cases hz with
  |c h=>
   have h2:Frz (E G [(0,[[vec (G.next+1) v' ((d.rows.take i).map jc++[jc x]) junk']]),(v',(d.rows.take i).map jc++[jc x]++junk')]) G.next (vec (G.next+1) v' ((d.rows.take i).map jc++[jc x]) junk') (.fz ((d.rows++[x]).map jc)):=by
    rw[<-e1];exact h
   exact h2
theorem zk5(e:List Ce)(x:Ce)(h:e.length=1):jh e 0 [x]=[x]:=by
 rw[jh,List.take_zero,ybl,yad gq,ybe]
theorem wgq{α:Type}{l m:List α}{x:α}(h:i<l.length):(l++m).set i x=l.set i x++m:=List.set_append_left _ _ h
theorem zct(db:List Data)(q:Int)(n:Nat)(d:Data)(hq:q=(n:Int))(hn:n<db.length)(hd:db.length<=60):Pure Tryz.prog 323 [.c (.fz (db.map wa)),.c (.int .i64 q),.agg (wa d)] (.c (.fz ((db.set n d).map wa))):=by
 refine yaq [5] jgk λG=>?_;repeat' first|refine X ?_|exact yaF|refine yaS ?_ ?_<;>intro _
 refine Go.app (k:=0) (ys:=[]) (junk:=[]) (zs:=db.map wa) rfl rfl rfl rfl rfl (λe he=>by cases he) Jk.nil zke gq λv junk hj=>?_;have hn2:n<(db.map wa).length:=by simpa using hn
 have hg:(E G [(v,[]++db.map wa++junk)]).get (G.next+0)=some (v,[]++db.map wa++junk):=jck (k:=0) rfl;have he:([]++db.map wa++junk)[0+n]?=some (wa db[n]):=by
  rw[ybl,ybk,yba hn2];simp[hn]
 have he2:([]++db.map wa++junk)[0+n]?=some (wa db[n]):=he;repeat' first|refine X ?_|((first|apply yG|apply yH|apply yI);exact rfl;(first|exact wq rfl rfl hq (by simpa using hn2) hg he rfl|exact zl (k:=0) rfl rfl rfl rfl he2 rfl gz))|exact yaF|refine yaS ?_ ?_<;>intro _
 refine .ret rfl ⟨_,rfl, ?_⟩;have e1:([]++db.map wa++junk).set (0+n) (jh (wa db[n]) 0 (wa d))=(db.set n d).map wa++junk:=by
  rw[ybl,ybk,show jh (wa db[n]) 0 (wa d)=wa d from zk5 _ _ rfl,wgq hn2,List.map_set]
 have hz:=wav (G:=G) (l:=[(v,(db.set n d).map wa++junk)]) (k:=0) (N:=G.next) (v:=v) (ys:=(db.set n d).map wa) (junk:=junk) rfl (wag _) (yaf _);rw[<-e1]at hz;have e2:vec (G.next+0) v ((db.set n d).map wa) junk=vec (G.next+0) v ([]++db.map wa) junk:=by simp[vec]
 rw[e2]at hz;exact hz
def outC(db:List Data)(i:Nat):List (List Ce):=(db.take i).map wa++List.replicate (db.length-i) [.nils]
theorem jk5(h:i<db.length):(outC db i)[0+i]?=some [.nils]:=by
 rw[outC,ybk,ybq (by rw[yae,yat];omega),List.getElem?_replicate,if_pos (by rw[yae,yat];omega)]
theorem wke(h:i<db.length):(outC db i).set (0+i) (wa db[i])=outC db (i+1):=by
 have e1:db.length-i=(db.length-(i+1))+1:=O;have e2:i-(db.take i).length=0:=by rw[yat];omega
 rw[outC,outC,ybk,List.set_append_right _ _ gq,yae,e2,e1,List.replicate_succ,List.set_cons_zero,yaj h,yak,ybn]
 rfl
theorem zff(db:List Data)(hd:db.length<=60)(hr:∀d∈db,d.rows.length<=60/\∀r∈d.rows,r.vals.length<=34359738368):Pure Tryz.prog 69 [.c (.fz (db.map wa))] (.c (.fz (db.map wa))):=by
 refine yap [48] zgf λG hS hA=>?_;clear hA;have hmk:24*db.length<=140737488355328:=O;repeat' first|refine X ?_|((first|apply yG|apply yH|apply yI);exact rfl;(first|exact zw rfl rfl hmk))|exact yaF|refine yaS ?_ ?_<;>intro _
 refine Go.keep [0,3,4] (Go.loops (I:=λm fr V=>∃(i:Nat) (k:Int),m=db.length-i/\i<=db.length/\k=i/\
  fr=[(0,.c (.fz (db.map wa))),(3,.c (.sl (G.next+0) 0 0 db.length db.length)),(4,.c (.int .i64 k))]/\V=E G [(0,outC db i)]) ?_ _ _ _ ⟨0,_,rfl,Nat.zero_le _,rfl,rfl,by rw[outC];simp⟩)
 rintro m fr V ⟨i,k,rfl,hi,hk,rfl,rfl⟩ hrec;by_cases hlt:i<db.length
 ·obtain⟨hr1,hr2⟩:=hr _ (yaa hlt);repeat' first|refine X ?_|exact yaF|refine yaS ?_ ?_<;>intro _
  refine Go.keep [0,3,4,5,6] (Go.loops (I:=λm fr V=>∃(j:Nat) (kj:Int) (v:Nat) (junk:List (List Ce)),m=db[i].rows.length-j/\j<=db[i].rows.length/\kj=j/\Jk 2 junk/\
   fr=[(0,.c (.fz (db.map wa))),(3,.c (.sl (G.next+0) 0 0 db.length db.length)),(4,.c (.int .i64 k)),(5,.c (vec (G.next+1) v ((db[i].rows.take j).map jc) junk)),(6,.c (.int .i64 kj))]/\V=E G [(0,outC db i),(v,(db[i].rows.take j).map jc++junk)]) ?_ _ _ _ ⟨0,_,0,[],rfl,yac _,rfl,Jk.nil,rfl,rfl⟩)
  rintro m fr V ⟨j,kj,v,junk,rfl,hj,hkj,hjk,rfl,rfl⟩ hrecj;by_cases hltj:j<db[i].rows.length
  ·have hbd:(((db[i].rows.take j).map jc).length+1)*32<=140737488355328:=by rw[yae,yat];omega
   have e1:(db[i].rows.take j).map jc++[jc db[i].rows[j]]=(db[i].rows.take (j+1)).map jc:=by rw[yaj hltj,yak];rfl
   have cc:=zbo db[i].rows[j].vals (hr2 _ (yaa hltj));repeat' first|refine X ?_|((first|apply yG|apply yH|apply yI);exact rfl;(first|exact yax wa hk hlt|exact yax jc hkj hltj))|(apply Go.sapp1;exact rfl;exact rfl;exact rfl;exact rfl;exact rfl;exact wat;exact hjk;exact rfl;exact hbd;intro v' junk' hj')|refine yaC (cc) ?_|exact yaF|refine yaS ?_ ?_<;>intro _
   refine Go.keep [0,3,4,5,6] (hrecj _ _ _ O ⟨j+1,_,v',junk',rfl,hltj,wb hkj O,hj', ?_, ?_⟩)
   ·rw[<-e1];rfl
   ·rw[<-e1];rfl
  ·clear hrecj;repeat' first|refine X ?_|((first|apply yG|apply yH|apply yI);exact rfl;(first|exact yax wa hk hlt))|exact yaF|refine yaS ?_ ?_<;>intro _
   have e1:db[i].rows.take j=db[i].rows:=yao O;rw[e1];refine Go.freezeN (l:=[(0,outC db i)]) (m:=[(v,db[i].rows.map jc++junk)]) (fr':=[(0,.c (.fz (db.map wa))),(3,.c (.sl (G.next+0) 0 0 db.length db.length)),(4,.c (.int .i64 k)),(50,.c (.sl (G.next+0) 0 0 db.length db.length)),(51,.c (.int .i64 k)),(53,.agg [.fz (db[i].rows.map jc)])]) hS (λb hb e he x hx=>?_) (yaf _) (.frz rfl (.refl λy hy=>?_) (.frz rfl (.refl (zai (yal _))) (.frz rfl (.refl zu) (.frz rfl (.refl (zai (yal _))) (.frz rfl (.refl zu) (.frz rfl (.agg rfl λj hj0=>?_) .nil)))))) ?_
   ·rw[List.mem_singleton.1 hb]at he;rcases List.mem_append.1 he with he|he
    ·exact wag _ e he x hx
    ·rw[ybo he]at hx;rw[List.mem_singleton.1 hx];exact .nils
   ·rw[List.mem_singleton.1 hy];exact jl (wag _)
   ·have hz:FrzV (E G ([(0,outC db i)]++[(v,db[i].rows.map jc++junk)])) (G.next+[(0,outC db i)].length) (.c (vec (G.next+1) v (db[i].rows.map jc) junk)) (.c (.fz (db[i].rows.map jc))):=wav (k:=1) rfl (jd3 _) (yaf _);have hj1:j=0:=by have hj9:j<1:=hj0;omega
    subst hj1
    cases hz with
    |c h=>exact h
   have he:=jk5 hlt;have hg:(E G [(0,outC db i)]).get (G.next+0)=some (0,outC db i):=jck (k:=0) rfl;repeat' first|refine X ?_|((first|apply yG|apply yH|apply yI);exact rfl;(first|exact wq rfl rfl hk hlt hg he rfl|exact zl (k:=0) rfl rfl rfl rfl he rfl gz))|exact yaF|refine yaS ?_ ?_<;>intro _
   refine Go.keep [0,3,4] (hrec _ _ _ O ⟨i+1,_,rfl,hlt,wb hk O,rfl, ?_⟩);rw[<-wke hlt]
   rfl
 ·repeat' first|refine X ?_|exact yaF|refine yaS ?_ ?_<;>intro _
  refine .ret rfl ⟨_,rfl, ?_⟩;have e1:outC db i=db.map wa++[]:=by rw[outC,yao O,show db.length-i=0 by omega];rfl
  have hz:=wav (G:=G) (l:=[(0,db.map wa++[])]) (k:=0) (N:=G.next) (v:=0) (ys:=db.map wa) (junk:=[]) rfl (wag _) (yaf _);rw[<-e1]at hz;have e2:vec (G.next+0) 0 (db.map wa) []=.sl (G.next+0) 0 0 db.length db.length:=by simp[vec]
  rw[e2]at hz;exact hz
theorem zkf(s:List wc)(hx:s.length<=34359738368)(hb:∀t∈s,wad 34359738368 t):Pure Tryz.prog 114 [.c (.fz (s.map ja))] (.tup [.c (.fz ((if wl s then List.replicate s.length (⟨[]⟩:Data)else[]).map wa)),.c (.bool (wl s))]):=by
 refine yaq [] jg4 λG=>?_;have c1:=zcs s hx hb
 cases h:wl s
 ·rw[h]at c1;repeat' first|refine X ?_|refine yaC (c1) ?_|exact yaF|refine yaS ?_ ?_<;>intro _
  exact .ret rfl ⟨_,rfl,.tup rfl λi hi=>by
   have:i=0\/i=1:=by simp at hi;omega
   rcases this with rfl|rfl
   ·exact .c .nil
   ·exact .c (.same _ (.bool _))⟩
 ·rw[h]at c1;have h5:s.length<=5:=by
   simp only[wl,Bool.and_eq_true,decide_eq_true_eq]at h;omega
  have hmk:24*s.length<=140737488355328:=O;repeat' first|refine X ?_|((first|apply yG|apply yH|apply yI);exact rfl;(first|exact zw rfl rfl hmk))|refine yaC (c1) ?_|exact yaF|refine yaS ?_ ?_<;>intro _
  refine .ret rfl ⟨_,rfl,.tup rfl λi hi=>?_⟩;have:i=0\/i=1:=by simp at hi;omega
  rcases this with rfl|rfl
  ·have e1:(List.replicate s.length (⟨[]⟩:Data)).map wa=List.replicate s.length [.fz []]:=by rw[List.map_replicate];rfl
   refine .c (.sl _ _ _ _ _ (List.replicate s.length [.nils]) _ (ybc _ _) (jck (k:=0) rfl) gx gx (λk hk=>?_) (λk j hk hj=>?_))
   ·simp only[if_true,e1,List.getElem_replicate]
    rfl
   ·have hj0:j=0:=by
     simp only[if_true,e1,List.getElem_replicate]at hj;simpa using hj
    subst hj0;simp only[if_true,e1,List.getElem_replicate];exact .nil
  ·exact .c (.same _ (.bool _))
theorem jeb{t:wc}{x:RowD}(h1:isIn x.id 1 1000000000=true)(h2:fitF t x.vals=true):∀{l:List RowD} {p:Option Int},wae t p l=true->(∀q∈l,q.id<x.id)->(∀q,p=some q->q<x.id)->wae t p (l++[x])=true
 |[],p,_,_,h=>by
  have h3:wbn p x.id=true:=by
   cases p with
   |none=>rfl
   |some q=>exact decide_eq_true (h q rfl)
  simp[wae,jcg,h1,h2,h3]
 |a::l,p,h,hl,hp=>by
  rw[wae,yau]at h;rw[List.cons_append,wae,h.1,jeb h1 h2 h.2 (λq hq=>hl q (by simp[hq])) λq hq=>by injection hq with hq;rw[<-hq];exact hl a gx]
  rfl
theorem zgr:∀{s:List wc} {db:List Data},(∀i (hi:i<s.length) (hi2:i<db.length),wdf s[i] db[i].rows=true)->zdg s db=true
 |[],_,_=>by simp[zdg]
 |_::_,[],_=>by simp[zdg]
 |t::s,d::db,h=>by
  rw[zdg,show wdf t d.rows=true from h 0 gx gx,zgr λi hi hi2=>h (i+1) gq gq]
  rfl
theorem wk5(h:dbF s db=true){n:Nat}(hn:n<s.length)(hn2:n<db.length){x:RowD}(h1:isIn x.id 1 1000000000=true)(h2:fitF s[n] x.vals=true)(h3:∀q∈db[n].rows,q.id<x.id)(h4:db[n].rows.length<60):dbF s (db.set n ⟨db[n].rows++[x]⟩)=true:=by
 obtain⟨hs,hl,hrows⟩:=wbv h;rw[dbF,hs,yasq,decide_eq_true O,yav,yav];refine zgr λi hi hi2=>?_;rw[List.getElem_set];split
 ·rename_i e;subst e;have hr:=hrows n hn hn2;rw[wdf,yau]at hr⊢;exact⟨jeb h1 h2 hr.1 h3 (λq hq=>nomatch hq),by rw[yaqq,ybf];exact decide_eq_true O⟩
 ·exact hrows i hi _
theorem zi0(h:dbF s db=true):db.length<=5/\(∀d∈db,wc5 34359738368 d)/\∀d∈db,d.rows.length<=60/\∀r∈d.rows,1<=r.vals.length/\r.vals.length<=8/\∀w∈r.vals,bV 12 w:=by
 obtain⟨hs,hl,hrows⟩:=wbv h;have h5:s.length<=5:=by
  have:=hs;simp only[wl,Bool.and_eq_true,decide_eq_true_eq]at this;omega
 have key:∀d∈db,d.rows.length<=60/\∀r∈d.rows,1<=r.vals.length/\r.vals.length<=8/\∀w∈r.vals,bV 12 w:=λd hd=>by
  obtain⟨i,hi,rfl⟩:=ybr hd;have hr:=jb4 (hrows i O hi);refine⟨hr.1,λr hm=>?_⟩;obtain⟨f1,f2⟩:=j6 (hr.2 r hm).1;have hc:=zax hs _ (yaa (show i<s.length by omega));refine⟨O,O,λw hw=>?_⟩;have:=f2 w hw;simp only[zr,Bool.or_eq_true,Bool.and_eq_true,beq_iff_eq,decide_eq_true_eq]at this;rw[bV];rcases this with(⟨_,h⟩|⟨_,h⟩)|⟨_,h⟩
  ·rw[h];simp
  ·rw[h];simp
  ·omega
 refine⟨O,λd hd=>⟨by have:=(key d hd).1;omega,λr hr=>?_⟩,key⟩;obtain⟨_,k2,k3⟩:=(key d hd).2 r hr;exact⟨O,λw hw=>yai (k3 w hw) gb⟩
def Put(s:List wc)(bad:Int->Prop)(r:AV):Prop:=∃y id code,r=.tup [.c y,.c (.int .i64 id),.c (.int .i64 code)]/\(¬bad code->∃db,dbF s db=true/\y=.fz (db.map wa))
theorem wcc{a b:Int}(hy:Old G.next y):FrzV (E G l) G.next (.tup [.c y,.c (.int .i64 a),.c (.int .i64 b)]) (.tup [.c y,.c (.int .i64 a),.c (.int .i64 b)]):=.tup rfl λi hi=>by
 have:i=0\/i=1\/i=2:=by simp at hi;omega
 rcases this with rfl|rfl|rfl
 ·exact .c (.same _ hy)
 ·exact .c (.same _ (.int _ _))
 ·exact .c (.same _ (.int _ _))
theorem zh9(s:List wc)(db:List Data)(q:Int)(n:Nat)(vals:List Val)(hq:q=(n:Int))(hn:n<s.length)(hn2:n<db.length)(h:dbF s db=true)(hb:∀t∈s,wad 34359738368 t)(hf:fitF s[n] vals=true):
 Told Tryz.prog 256 [.c (.fz (s.map ja)),.c (.fz (db.map wa)),.c (.int .i64 q),.c (.fz (vals.map encV)),.c (.bool false)] (Put s λc=>c≠0):=by
 refine Told.run mixed zbu gz λG hS=>?_;clear hS;obtain⟨hs,hl,hrows⟩:=wbv h;have hrn:=hrows n hn hn2;have hmem:=jb4 hrn;have hT:=wcb hs _ (yaa hn);have hfv:=j6 hf;have h5:=(zi0 h).1;have c0:=jjl s[n] vals hfv.1 hT (za9 hf hT.cols8);repeat' first|refine X ?_|((first|apply yG|apply yH|apply yI);exact rfl;(first|exact yax ja hq hn))|exact yaF|refine yaS ?_ ?_<;>intro _
 refine Go.told rfl rfl rfl c0 ?_;rintro _ ⟨code,rfl⟩;by_cases h0:code=0
 ·subst h0;repeat' first|refine X ?_|((first|apply yG|apply yH|apply yI);exact rfl;(first|exact yax wa hq hn2))|exact yaF|refine yaS ?_ ?_<;>intro _
  refine Go.told rfl rfl rfl (wjl db[n] (jf4 hrn) hmem.1 λr hr=>?_) ?_
  ·have:=(hmem.2 r hr).2;simp only[isIn,Bool.and_eq_true,decide_eq_true_eq]at this;exact this
  rintro _ ⟨k,hk1,hk2,hk3,rfl⟩;have cc:=zbo vals (by have h8:=hT.cols8;have hf1:=hfv.1;omega);repeat' first|refine X ?_|refine yaC (cc) ?_|exact yaF|refine yaS ?_ ?_<;>intro _
  have hR:=zkt h hb hn hn2;have hK:jiz s[n] db[n] ⟨k,vals⟩:=⟨hT.uniq3,hR.keys,λc hc=>by show InR c vals.length;rw[hfv.1];exact hR.inr c hc,λc hc r hr=>by rw[(hR.row r hr).len];exact hR.inr c hc⟩;refine Go.told rfl rfl rfl (wiz s db q n ⟨k,vals⟩ hq hn hn2 hmem.1 hK) ?_;rintro _ (rfl|rfl)
  ·by_cases hfull:db[n].rows.length=60
   ·have hfi:(db[n].rows.length:Int)=60:=O;repeat' first|refine X ?_|((first|apply yG|apply yH|apply yI);exact rfl;(first|exact yax wa hq hn2))|exact yaF|refine yaS ?_ ?_<;>intro _
    exact .ret rfl ⟨_,⟨_,_,_,rfl,λhh=>absurd gb hh⟩,_,rfl,wcc .nils⟩
   ·have hfi:¬(db[n].rows.length:Int)=60:=O;by_cases hbig:k>1000000000
    ·repeat' first|refine X ?_|((first|apply yG|apply yH|apply yI);exact rfl;(first|exact yax wa hq hn2))|exact yaF|refine yaS ?_ ?_<;>intro _
     exact .ret rfl ⟨_,⟨_,_,_,rfl,λhh=>absurd gb hh⟩,_,rfl,wcc .nils⟩
    ·have hd2:=wk5 h hn hn2 (x:=⟨k,vals⟩) (by simp only[isIn,Bool.and_eq_true,decide_eq_true_eq];omega) hf hk3 O;have c4:=jke db[n] ⟨k,vals⟩ hmem.1 hk3;have c5:=zct db q n ⟨db[n].rows++[⟨k,vals⟩]⟩ hq hn2 O;generalize hdb':db.set n ⟨db[n].rows++[⟨k,vals⟩]⟩=db' at hd2 c5;have hl2:db'.length=db.length:=by rw[<-hdb',yasq]
     have hR2:=zkt hd2 hb hn O;have hx:(⟨k,vals⟩:RowD)∈(db'[n]'O).rows:=by
      have:db'[n]'O=⟨db[n].rows++[⟨k,vals⟩]⟩:=by simp only[<-hdb',List.getElem_set_self]
      rw[this];simp
     have c6:=wa6 s db' q n vals true O hq hn hT.fk3 (hR2.row _ hx).fks;generalize (!(s[n].fks.any (zo s db' (!true) vals)))=B at c6
     cases B
     ·repeat' first|refine X ?_|((first|apply yG|apply yH|apply yI);exact rfl;(first|exact yax wa hq hn2))|refine yaC (c4) ?_|refine yaC (c5) ?_|refine yaC (c6) ?_|exact yaF|refine yaS ?_ ?_<;>intro _
      exact .ret rfl ⟨_,⟨_,_,_,rfl,λhh=>absurd gb hh⟩,_,rfl,wcc .nils⟩
     ·repeat' first|refine X ?_|((first|apply yG|apply yH|apply yI);exact rfl;(first|exact yax wa hq hn2))|refine yaC (c4) ?_|refine yaC (c5) ?_|refine yaC (c6) ?_|exact yaF|refine yaS ?_ ?_<;>intro _
      exact .ret rfl ⟨_,⟨_,_,_,rfl,λ_=>⟨db',hd2,rfl⟩⟩,_,rfl,wcc (jl (wag _))⟩
  ·repeat' first|refine X ?_|exact yaF|refine yaS ?_ ?_<;>intro _
   exact .ret rfl ⟨_,⟨_,_,_,rfl,λhh=>absurd gb hh⟩,_,rfl,wcc .nils⟩
 ·repeat' first|refine X ?_|exact yaF|refine yaS ?_ ?_<;>intro _
  exact .ret rfl ⟨_,⟨_,_,_,rfl,λhh=>absurd h0 hh⟩,_,rfl,wcc .nils⟩
theorem jfw(s:List wc)(db:List Data)(q:Int)(n:Nat)(vals:List Val)(hq:q=(n:Int))(hn:n<s.length)(hx:s.length<=34359738368)(h:dbF s db=true)(hb:∀t∈s,wad 34359738368 t)(hv:vals.length<=34359738368):
 Told Tryz.prog 232 [.c (.fz (s.map ja)),.c (.fz (db.map wa)),.c (.int .i64 q),.c (.fz (vals.map encV)),.c (.bool false)] (Put s λc=>c=1):=by
 refine Told.run mixed wdc gz λG hS=>?_;clear hS;obtain⟨hs,hl,hrows⟩:=wbv h;obtain⟨h5,hbd,hrl⟩:=zi0 h;have hn2:n<db.length:=O;have c1:=jk4 s db q hx hb O hbd;have hin:isIn q 0 (s.length-1)=true:=by simp only[isIn,Bool.and_eq_true,decide_eq_true_eq];omega
 rw[h,hin]at c1;have c2:=zb4 s[n] vals hv
 cases hf:fitF s[n] vals
 ·rw[hf]at c2;repeat' first|refine X ?_|((first|apply yG|apply yH|apply yI);exact rfl;(first|exact yax ja hq hn))|refine yaC (c1) ?_|refine yaC (c2) ?_|exact yaF|refine yaS ?_ ?_<;>intro _
  exact .ret rfl ⟨_,⟨_,_,_,rfl,λhh=>absurd rfl hh⟩,_,rfl,wcc .nils⟩
 ·rw[hf]at c2;repeat' first|refine X ?_|((first|apply yG|apply yH|apply yI);exact rfl;(first|exact yax ja hq hn))|refine yaC (c1) ?_|refine yaC (c2) ?_|exact yaF|refine yaS ?_ ?_<;>intro _
  refine Go.told rfl rfl rfl (zh9 s db q n vals hq hn hn2 h hb hf) ?_;rintro _ ⟨y,id,code,rfl,hok⟩;have cdb:=zff db O λd hd=>⟨(hrl d hd).1,λr hr=>by have:=((hrl d hd).2 r hr).2.1;omega⟩;by_cases h0:code=0
  ·subst h0;obtain⟨db',hd',rfl⟩:=hok gb;obtain⟨h5',_,hrl'⟩:=zi0 hd';have cdb':=zff db' O λd hd=>⟨(hrl' d hd).1,λr hr=>by have:=((hrl' d hd).2 r hr).2.1;omega⟩;repeat' first|refine X ?_|refine yaC (cdb') ?_|exact yaF|refine yaS ?_ ?_<;>intro _
   exact .ret rfl ⟨_,⟨_,_,_,rfl,λ_=>⟨db',hd',rfl⟩⟩,_,rfl,wcc (jl (wag _))⟩
  ·repeat' first|refine X ?_|refine yaC (cdb) ?_|exact yaF|refine yaS ?_ ?_<;>intro _
   exact .ret rfl ⟨_,⟨_,_,_,rfl,λ_=>⟨db,h,rfl⟩⟩,_,rfl,wcc (jl (wag _))⟩
def wll(N:Nat)(r:AV):Prop:=∃vs:List Val,vs.length=N/\(∀w∈vs,bV 12 w)/\r=.c (.fz (vs.map encV))
theorem jkt(t:wc)(hN:t.cols.length<=60):jal Tryz.prog 231 [.agg (ja t)] (wll t.cols.length):=
 ⟨λG id v code p hr=>jal.ends hr ((jji t hN G id v code p hr).mono (by
  rintro r V ⟨q,vs,u,junk,hq,hl,hb,hj,rfl,rfl⟩;exact .f hq ⟨vs,hl,hb,rfl⟩ (wbt (n:=0) (k:=0) rfl jc5 (yac _) (yaf _))))⟩
def zlm(s:List wc)(r:AV):Prop:=∃db:List Data,(dbF s db=true\/db=[])/\r=.c (.fz (db.map wa))
theorem jff(l:List wc):OldL n (l.map ja):=λe he c hc=>by
 obtain⟨a,_,rfl⟩:=List.mem_map.1 he;simp only[ja,List.mem_cons,List.not_mem_nil,or_false]at hc;rcases hc with rfl|rfl|rfl|rfl|rfl|rfl
 ·exact .str _
 ·exact jl (wh4 _)
 ·exact jl (wd2 _)
 ·exact jl (weo _)
 ·exact jl (jgo _)
 ·exact jl (wji _)
theorem whe.b34(h:whe t):wad 34359738368 t:=by
 obtain⟨⟨b1,⟨b2,b3⟩,b4,⟨b5,b6⟩,⟨b7,b8⟩,b9,b10⟩,_,_⟩:=h;have k:∀{n:Nat},n<=12->n<=34359738368:=λh=>O;refine⟨k b1,⟨k b2,λx hx=>?_⟩,k b4,⟨k b5,λx hx=>k (b6 x hx)⟩,⟨k b7,λx hx=>?_⟩,k b9,λx hx=>⟨k (b10 x hx).1,k (b10 x hx).2⟩⟩
 ·exact⟨k (b3 x hx).1,k (b3 x hx).2⟩
 ·exact⟨k (b8 x hx).1,λt ht=>k ((b8 x hx).2 t ht)⟩
theorem SchD.b(h:SchD s):s.length<=34359738368/\∀t∈s,wad 34359738368 t:=⟨by have:=h.2.1;omega,λt ht=>(h.2.2 t ht).b34⟩
theorem zk6(h:wl s=true):dbF s (List.replicate s.length (⟨[]⟩:Data))=true:=by
 rw[dbF,h,ybi,decide_eq_true rfl,yav,yav];refine zgr λi hi hi2=>?_;simp[wdf,wae]
theorem jct(h:0<n){r:AV}(hr:wjh (n:Int) r):∃k:Nat,k<n/\r=.c (.int .i64 (k:Int)):=by
 obtain⟨k,h0,h1,rfl⟩:=hr;refine⟨k.toNat,O,by rw[Int.toNat_of_nonneg h0]⟩
theorem jk6(s:List wc)(most:Nat)(hm:1<=most)(hm2:most<=60)(hs:SchD s):jal Tryz.prog 127 [.c (.fz (s.map ja)),.c (.int .i64 (most:Int))] (zlm s):=by
 refine jal.run mixed jdb gz λG id v code p hr hp hc hS=>?_;obtain⟨hx,hb⟩:=hs.b;have c0:=zkf s hx hb
 cases hsc:wl s
 ·rw[hsc,if_neg gb]at c0;have hpos:(0:Int)<s.length:=by have:=hs.1;omega
  repeat' first|refine X ?_|refine yaC (c0) ?_|exact yaF|refine yaS ?_ ?_<;>intro _
  apply Go.loop;repeat' first|refine X ?_|exact yaF|refine yaS ?_ ?_<;>intro _
  exact .ret rfl (.c hp ⟨[],.inr rfl,rfl⟩ λy hy=>by
   rw[List.mem_singleton.1 hy];exact .fz _ λi j hi=>absurd hi gx)
 rw[hsc,if_pos rfl]at c0;have hd0:=zk6 hsc;generalize List.replicate s.length (⟨[]⟩:Data)=db0 at c0 hd0;have hsO:∀y∈(AV.c (.fz (s.map ja))).all,Old G.next y:=λy hy=>by
  rw[List.mem_singleton.1 hy];exact jl (jff _)
 have hs3:=hs.2.1;have hs1:=hs.1;repeat' first|refine X ?_|refine yaC (c0) ?_|exact yaF|refine yaS ?_ ?_<;>intro _
 refine Go.keep [0,1,2,7,8,9] (Go.loops (I:=λm fr V=>∃(i:Nat) (k:Int) (q:Nat) (db:List Data),m=s.length-i/\i<=s.length/\k=i/\q<=code.length/\dbF s db=true/\
  fr=[(0,.c (.ptr id v 0 0)),(1,.c (.fz (s.map ja))),(2,.c (.int .i64 (most:Int))),(7,.c (.fz (db.map wa))),(8,.c (.bool true)),(9,.c (.int .i64 k))]/\V=E (Rd.go G id v code q) []) ?_ _ _ _ ⟨0,_,p,db0,rfl,yac _,rfl,hp,hd0,rfl,rfl⟩)
 clear c0 hd0 hp;rintro m fr V ⟨i,k,q,db,rfl,hi,hk,hq,hd,rfl,rfl⟩ hrec;by_cases hlt:i<s.length
 ·have hT:=hs.2.2 _ (yaa hlt);repeat' first|refine X ?_|exact yaF|refine yaS ?_ ?_<;>intro _
  refine Go.drawn hr hq rfl rfl rfl (jm most O O) ?_;rintro _ q1 hq1 ⟨a,ha0,ha1,rfl⟩;have ew:IntKind.i64.wrap (1+a)=1+a:=zk O O;repeat' first|refine X ?_|exact yaF|refine yaS ?_ ?_<;>intro _
  refine Go.keep [0,1,2,7,8,9,10] (Go.loops (I:=λm fr V=>∃(b:Int) (q:Nat) (db:List Data),m=b.toNat/\b<=100/\q<=code.length/\dbF s db=true/\
   fr=[(0,.c (.ptr id v 0 0)),(1,.c (.fz (s.map ja))),(2,.c (.int .i64 (most:Int))),(7,.c (.fz (db.map wa))),(8,.c (.bool true)),(9,.c (.int .i64 k)),(10,.c (.int .i64 b))]/\V=E (Rd.go G id v code q) []) ?_ _ _ _ ⟨_,q1,db,rfl,O,hq1,hd,rfl,rfl⟩)
  clear hq1 hd hq ew ha0 ha1;clear db q q1;rintro m fr V ⟨b,q,db,rfl,hb100,hq,hd,rfl,rfl⟩ hrecb;obtain⟨h5,hbd,hrl⟩:=zi0 hd;have hdl:=(wbv hd).2.1;have hi2:i<db.length:=O;have h00:0<db.length:=O;have hz0:(0:Int)=((0:Nat):Int):=rfl;by_cases hb0:b>0
  ·repeat' first|refine X ?_|((first|apply yG|apply yH|apply yI);exact rfl;(first|exact yax ja hk hlt))|exact yaF|refine yaS ?_ ?_<;>intro _
   have cf:=jji s[i] (by have:=hT.hi;omega) (E (Rd.go G id v code q) []) id v code q ((hr.at_ hq).E []);refine .call _ rfl rfl rfl cf ?_;rintro r V ⟨q2,vs,u,junk,hq2,hvl,hvb,hj,rfl,rfl⟩;rw[Rd.go_E (show id<(Rd.go G id v code q).next from hr.2.1),Rd.go_go,E_E,ybl];have hlo:=hT.lo;have hz1:(1:Int)=((1:Nat):Int):=rfl;have h1v:1<(vs.map encV).length:=by rw[yae];omega
   have h1v2:1<vs.length:=O;have hev:(vs.map encV++junk)[0+1]?=some (encV vs[1]):=by
    rw[ybk,yba h1v];simp[h1v2]
   have setV:∀w:Val,(vs.map encV++junk).set (0+1) (jh (encV vs[1]) 0 (encV w))=(vs.set 1 w).map encV++junk:=λw=>by
    have:jh (encV vs[1]) 0 (encV w)=encV w:=by rw[jh,List.take_zero,List.nil_append,List.drop_eq_nil_of_le (by simp[encV]),List.append_nil]
    rw[this,ybk,wgq h1v,List.map_set]
   have vec_set:∀w:Val,vec (G.next+0) u ((vs.set 1 w).map encV) junk=vec (G.next+0) u (vs.map encV) junk:=λw=>by simp[vec]
   have hset:∀w:Val,bV 12 w->∀x∈vs.set 1 w,bV 12 x:=λw hw x hx=>by
    rcases ybm hx with hx|rfl
    ·exact hvb x hx
    ·exact hw
   refine Go.op rfl rfl (.nil (.seq ?_))
   refine Go.meet (K':=[_]) (λfr V=>∃(q:Nat) (vs:List Val) (u:Nat) (junk:List (List Ce)),q<=code.length/\vs.length=s[i].cols.length/\(∀w∈vs,bV 12 w)/\Jk 3 junk/\
    fr=[(0,.c (.ptr id v 0 0)),(1,.c (.fz (s.map ja))),(2,.c (.int .i64 (most:Int))),(7,.c (.fz (db.map wa))),(8,.c (.bool true)),(9,.c (.int .i64 k)),(10,.c (.int .i64 b)),(11,.c (vec (G.next+0) u (vs.map encV) junk))]/\V=E (Rd.go G id v code q) [(u,vs.map encV++junk)]) (λK hm=>?_) ?_
   ·have hgv:∀q:Nat,(E (Rd.go G id v code q) [(u,vs.map encV++junk)]).get (G.next+0)=some (u,vs.map encV++junk):=λq=>jck (G:=Rd.go G id v code q) (k:=0) rfl;repeat' first|refine X ?_|((first|apply yG|apply yH|apply yI);exact rfl;(first|exact yax ja hk hlt|exact yax wa hk hi2|exact yax wa hz0 h00))|exact yaF|refine yaS ?_ ?_<;>intro _
    all_goals first
     |exact Go.keep [0,1,2,7,8,9,10,11] (hm _ _ ⟨q2,vs,u,junk,hq2,hvl,hvb,hj,rfl,rfl⟩)
     |skip
    refine Go.drawn hr hq2 rfl rfl rfl (z3 4 gb gb) ?_;rintro _ q3 hq3 ⟨b3,rfl⟩
    cases b3
    ·repeat' first|refine X ?_|((first|apply yG|apply yH|apply yI);exact rfl;(first|exact yax ja hk hlt|exact yax wa hk hi2|exact yax wa hz0 h00))|exact yaF|refine yaS ?_ ?_<;>intro _
     all_goals first
      |exact Go.keep [0,1,2,7,8,9,10,11] (hm _ _ ⟨q3,vs,u,junk,hq3,hvl,hvb,hj,rfl,rfl⟩)
      |skip
     ·have hr60:=(hrl _ (yaa hi2)).1;refine Go.drawn hr hq3 rfl rfl rfl (jm (db[i].rows).length O O) ?_;intro r q4 hq4 hz;obtain⟨c,hc4,rfl⟩:=jct O hz;have hrr:=((hrl _ (yaa hi2)).2 _ (yaa hc4));obtain⟨w,hw,hw2⟩:∃w,w=((db[i].rows)[c]'hc4).vals[0]'O/\bV 12 w:=⟨_,rfl,hrr.2.2 _ (yaa _)⟩;have hv0:0<((db[i].rows)[c]'hc4).vals.length:=O;repeat' first|refine X ?_|((first|apply yG|apply yH|apply yI);exact rfl;(first|exact yax jc rfl hc4|exact yax encV hz0 hv0|exact wq rfl rfl hz1 h1v (hgv _) hev rfl|exact zl (k:=0) rfl rfl rfl rfl hev rfl gz))|exact yaF|refine yaS ?_ ?_<;>intro _
      refine Go.keep [0,1,2,7,8,9,10,11] (hm _ _ ⟨q4,vs.set 1 w,u,junk,hq4,by rw[yasq];exact hvl,hset w hw2,hj, ?_, ?_⟩)
      ·rw[vec_set];rfl
      ·rw[<-setV w,hw];rfl
     ·have hr60:=(hrl _ (yaa h00)).1;refine Go.drawn hr hq3 rfl rfl rfl (jm (db[0].rows).length O O) ?_;intro r q4 hq4 hz;obtain⟨c,hc4,rfl⟩:=jct O hz;have hrr:=((hrl _ (yaa h00)).2 _ (yaa hc4));obtain⟨w,hw,hw2⟩:∃w,w=((db[0].rows)[c]'hc4).vals[0]'O/\bV 12 w:=⟨_,rfl,hrr.2.2 _ (yaa _)⟩;have hv0:0<((db[0].rows)[c]'hc4).vals.length:=O;repeat' first|refine X ?_|((first|apply yG|apply yH|apply yI);exact rfl;(first|exact yax jc rfl hc4|exact yax encV hz0 hv0|exact wq rfl rfl hz1 h1v (hgv _) hev rfl|exact zl (k:=0) rfl rfl rfl rfl hev rfl gz))|exact yaF|refine yaS ?_ ?_<;>intro _
      refine Go.keep [0,1,2,7,8,9,10,11] (hm _ _ ⟨q4,vs.set 1 w,u,junk,hq4,by rw[yasq];exact hvl,hset w hw2,hj, ?_, ?_⟩)
      ·rw[vec_set];rfl
      ·rw[<-setV w,hw];rfl
    ·repeat' first|refine X ?_|((first|apply yG|apply yH|apply yI);exact rfl;(first|exact yax ja hk hlt|exact yax wa hk hi2|exact yax wa hz0 h00))|exact yaF|refine yaS ?_ ?_<;>intro _
     all_goals exact Go.keep [0,1,2,7,8,9,10,11] (hm _ _ ⟨q3,vs,u,junk,hq3,hvl,hvb,hj,rfl,rfl⟩)
   ·clear hset vec_set setV hev h1v2 h1v hz1;clear hvl hvb hj hq2;clear q2 vs u junk;rintro fr V ⟨q2,vs,u,junk,hq2,hvl,hvb,hj,rfl,rfl⟩;have hz1:(1:Int)=((1:Nat):Int):=rfl;have h1v:1<(vs.map encV).length:=by rw[yae];omega
    have h1v2:1<vs.length:=O;have hev:(vs.map encV++junk)[0+1]?=some (encV vs[1]):=by
     rw[ybk,yba h1v];simp[h1v2]
    have setV:∀w:Val,(vs.map encV++junk).set (0+1) (jh (encV vs[1]) 0 (encV w))=(vs.set 1 w).map encV++junk:=λw=>by
     have:jh (encV vs[1]) 0 (encV w)=encV w:=by rw[jh,List.take_zero,List.nil_append,List.drop_eq_nil_of_le (by simp[encV]),List.append_nil]
     rw[this,ybk,wgq h1v,List.map_set]
    have vec_set:∀w:Val,vec (G.next+0) u ((vs.set 1 w).map encV) junk=vec (G.next+0) u (vs.map encV) junk:=λw=>by simp[vec]
    have hset:∀w:Val,bV 12 w->∀x∈vs.set 1 w,bV 12 x:=λw hw x hx=>by
     rcases ybm hx with hx|rfl
     ·exact hvb x hx
     ·exact hw
    refine .seq ?_
    refine Go.meet (K':=[_]) (λfr V=>∃(q:Nat) (vs:List Val) (u:Nat) (junk:List (List Ce)),q<=code.length/\vs.length=s[i].cols.length/\(∀w∈vs,bV 12 w)/\Jk 3 junk/\
     fr=[(0,.c (.ptr id v 0 0)),(1,.c (.fz (s.map ja))),(2,.c (.int .i64 (most:Int))),(7,.c (.fz (db.map wa))),(8,.c (.bool true)),(9,.c (.int .i64 k)),(10,.c (.int .i64 b)),(11,.c (vec (G.next+0) u (vs.map encV) junk))]/\V=E (Rd.go G id v code q) [(u,vs.map encV++junk)]) (λK hm=>?_) ?_
    ·have hgv:∀q:Nat,(E (Rd.go G id v code q) [(u,vs.map encV++junk)]).get (G.next+0)=some (u,vs.map encV++junk):=λq=>jck (G:=Rd.go G id v code q) (k:=0) rfl;repeat' first|refine X ?_|((first|apply yG|apply yH|apply yI);exact rfl;(first|exact yax ja hk hlt|exact yax wa hk hi2|exact yax wa hz0 h00|exact wq rfl rfl hz1 h1v (hgv _) hev rfl|exact zl (k:=0) rfl rfl rfl rfl hev rfl gz))|exact yaF|refine yaS ?_ ?_<;>intro _
     all_goals first
      |exact Go.keep [0,1,2,7,8,9,10,11] (hm _ _ ⟨q2,vs,u,junk,hq2,hvl,hvb,hj,rfl,rfl⟩)
      |skip
     refine Go.keep [0,1,2,7,8,9,10,11] (hm _ _ ⟨q2,vs.set 1 zf,u,junk,hq2,by rw[yasq];exact hvl,hset zf (yac _),hj, ?_, ?_⟩)
     ·rw[vec_set];rfl
     ·rw[<-setV zf];rfl
    ·clear hset vec_set setV hev h1v2 h1v hz1;clear hvl hvb hj hq2;clear q2 vs u junk;rintro fr V ⟨q2,vs,u,junk,hq2,hvl,hvb,hj,rfl,rfl⟩
     refine Go.freezeN (l:=[]) (m:=[(u,vs.map encV++junk)]) (fr':=[(0,.c (.ptr id v 0 0)),(1,.c (.fz (s.map ja))),(2,.c (.int .i64 (most:Int))),(7,.c (.fz (db.map wa))),(8,.c (.bool true)),(9,.c (.int .i64 k)),(10,.c (.int .i64 b)),(11,.c (.fz (vs.map encV)))]) (hr.old hS) (λb hb=>by cases hb) (yaf _)
      (.frz rfl (.refl (z4 hr.2.1)) (.frz rfl (.refl hsO) (.frz rfl (.refl zu) (.frz rfl (.refl λy hy=>by rw[List.mem_singleton.1 hy];exact jl (wag _)) (.frz rfl (.refl zh4) (.frz rfl (.refl zu) (.frz rfl (.refl zu) (.frz rfl (wbt (n:=0) (k:=0) rfl jc5 (yac _) (yaf _)) .nil)))))))) ?_
     repeat' first|refine X ?_|exact yaF|refine yaS ?_ ?_<;>intro _
     refine Go.told rfl rfl rfl (jfw s db k i vs hk hlt hx hd hb (by have:=hT.hi;omega)) ?_;rintro _ ⟨y,iid,cd,rfl,hok⟩;have ew:IntKind.i64.wrap (b-1)=b-1:=zk O O;by_cases hcd:cd=1
     ·repeat' first|refine X ?_|exact yaF|refine yaS ?_ ?_<;>intro _
      exact Go.keep [0,1,2,7,8,9,10] (hrecb _ _ _ O ⟨b-1,q2,db,rfl,O,hq2,hd,by rw[ew];rfl,rfl⟩)
     ·obtain⟨db',hd',rfl⟩:=hok hcd;repeat' first|refine X ?_|exact yaF|refine yaS ?_ ?_<;>intro _
      exact Go.keep [0,1,2,7,8,9,10] (hrecb _ _ _ O ⟨b-1,q2,db',rfl,O,hq2,hd',by rw[ew];rfl,rfl⟩)
  ·repeat' first|refine X ?_|exact yaF|refine yaS ?_ ?_<;>intro _
   exact Go.keep [0,1,2,7,8,9] (hrec _ _ _ O ⟨i+1,_,q,db,rfl,hlt,wb hk O,hq,hd,rfl,rfl⟩)
 ·repeat' first|refine X ?_|exact yaF|refine yaS ?_ ?_<;>intro _
  exact .ret rfl (.c hq ⟨db,.inl hd,rfl⟩ λy hy=>by
   rw[List.mem_singleton.1 hy];exact jl (wag _))
theorem jjm(code:List UInt8)(G:jb):Ok Tryz.prog 125 [.c (.fz (code.map encB))] G (λr V=>r=.c (.ptr (G.next+0) 0 0 0)/\V=E G [(0,rdB code 0)]):=by
 refine Ok.run mixed wed gz λhS hA=>?_;clear hS hA;repeat' first|refine X ?_|exact yaF|refine yaS ?_ ?_<;>intro _
 exact .ret rfl ⟨rfl,rfl⟩
theorem wjm(hc:code.length<=1048576):Rd (E G [(0,rdB code 0)]) (G.next+0) 0 code 0:=⟨jck (k:=0) rfl,by rw[zan];simp,Nat.zero_le _,hc⟩
theorem zjn(hc:code.length<=1048576):E G [(0,rdB code 0)]=E (Rd.go (E G [(0,rdB code 0)]) (G.next+0) 0 code 0) []:=by
 rw[(wjm (G:=G) hc).same,E_E,ybe]
theorem wlg(code:List UInt8):Pure Tryz.prog 39 [.c (.fz (code.map encB))] (.c (.bool (decide (1048576<(code.length:Int))))):=by
 refine yaq [] jit λG=>?_;repeat' first|refine X ?_|exact yaF|refine yaS ?_ ?_<;>intro _
 exact .ret rfl (.bool rfl)
def jp(db:List Data)(n:Nat):List RowD:=match db[n]? with|some d=>d.rows|none=>[]
def jai(l:List RowD)(id:Int):Option RowD:=l.find? λr=>r.id==id
def wb4(t:wc)(vals:List Val):Int:=if jav t 0 vals then 2 else if t.checks.any (za1 vals)then 3 else 0
def wff(t:wc)(i:Nat):Val:=match t.cols[i]? with|some c=>c.dflt|none=>zf
def jj(t:wc):Nat->List Val->List Val
 |_,[]=>[]
 |i,v::l=>(if v.k==0&&zx t i then wff t i else v)::jj t (i+1) l
def z5(l:List RowD)(id:Int):List RowD:=l.filter λr=> !(r.id==id)
def setRow(l:List RowD)(x:RowD):List RowD:=l.map λr=>if r.id==x.id then x else r
def jo(casc:Bool):List Int->List Val->List Val->List Val
 |[],_,vals=>vals
 |c::cs,w,vals=>jo casc cs w.tail (vals.set c.toNat (if casc then w.headD zf else zf))
inductive Chg where
 |del (n:Nat) (id:Int)
 |upd (n:Nat) (id:Int) (vals:List Val) (rep:Bool)
abbrev Res:=List Data×Int
def w6(run:Chg->List Data->Res)(n:Nat):List Int->List Data->Res
 |[],db=>(db,0)
 |id::l,db=>if(jai (jp db n) id).isNone then w6 run n l db else if(run (.del n id) db).2=0 then w6 run n l (run (.del n id) db).1 else([],(run (.del n id) db).2)
def j9(run:Chg->List Data->Res)(t:wc)(n:Nat)(x:RowD)(rep:Bool)(db:List Data):Res:=
 if(decide (0<(j4 (jp db n) (jn t) x.id x.vals).length)&& !rep)=true then([],4)else w6 run n (j4 (jp db n) (jn t) x.id x.vals) db
structure Way where
 act:Int
 wait:Bool
 cols:List Int
def oneF(run:Chg->List Data->Res)(n:Nat)(y:Way)(wth:List Val)(gone:Bool)(x:RowD)(db:List Data):Res:=
 if y.act=0 then(if y.wait then(db,0)else([],5))
 else if y.act=1/\gone=true then run (.del n x.id) db
 else run (.upd n x.id (jo (y.act==1) y.cols wth x.vals) false) db
def zac(run:Chg->List Data->Res)(n:Nat)(y:Way)(key wth:List Val)(gone:Bool):List Int->List Data->Res
 |[],db=>(db,0)
 |id::l,db=>match jai (jp db n) id with
  |none=>zac run n y key wth gone l db
  |some x=>if hasB y.cols key x.vals=true then(if(oneF run n y wth gone x db).2=0 then zac run n y key wth gone l (oneF run n y wth gone x db).1 else([],(oneF run n y wth gone x db).2))else zac run n y key wth gone l db
def wct(f:Fk)(gone:Bool):Way:=⟨if gone then f.onDelete else f.onUpdate,f.deferred,f.cols⟩
def wa4(run:Chg->List Data->Res)(name:List UInt8)(i:Nat)(key wth:List Val)(gone:Bool):List Fk->List Data->Res
 |[],db=>(db,0)
 |f::l,db=>if f.table=name then
  (if(zac run i (wct f gone) key wth gone (w8 (jp db i) f.cols key) db).2=0 then wa4 run name i key wth gone l (zac run i (wct f gone) key wth gone (w8 (jp db i) f.cols key) db).1
   else([],(zac run i (wct f gone) key wth gone (w8 (jp db i) f.cols key) db).2))
  else wa4 run name i key wth gone l db
def zah(run:Chg->List Data->Res)(name:List UInt8)(key wth:List Val)(gone:Bool):Nat->List wc->List Data->Res
 |_,[],db=>(db,0)
 |i,t::l,db=>if(wa4 run name i key wth gone t.fks db).2=0 then zah run name key wth gone (i+1) l (wa4 run name i key wth gone t.fks db).1 else([],(wa4 run name i key wth gone t.fks db).2)
def tabN(s:List wc)(n:Nat):wc:=match s[n]? with|some t=>t|none=>⟨[],[],[],[],[],[]⟩
def zy(run:Chg->List Data->Res)(s:List wc)(n:Nat)(key wth:List Val)(gone:Bool)(db:List Data):Res:=zah run (tabN s n).name key wth gone 0 s db
def za7(s:List wc)(n:Nat)(id:Int)(db:List Data):Res:=match jai (jp db n) id with
 |none=>(db,0)
 |some y=>if((tabN s n).fks.any λf=>zo s db false y.vals f)=true then([],5)else(db,0)
def upd3(s:List wc)(n:Nat)(id:Int)(d:Res):Res:=if d.2=0 then za7 s n id d.1 else([],d.2)
def upd2(run:Chg->List Data->Res)(s:List wc)(n:Nat)(id:Int)(vals:List Val)(old:RowD)(db:List Data):Res:=
 if keyF (tabN s n).key old.vals=keyF (tabN s n).key vals then(db.set n ⟨setRow (jp db n) ⟨id,vals⟩⟩,0)else zy run s n (keyF (tabN s n).key old.vals) (keyF (tabN s n).key vals) false (db.set n ⟨setRow (jp db n) ⟨id,vals⟩⟩)
def upd1(run:Chg->List Data->Res)(s:List wc)(n:Nat)(id:Int)(vals:List Val)(c:Res):Res:=
 if c.2=0 then(match jai (jp c.1 n) id with
  |none=>([],9)
  |some old=>upd3 s n id (upd2 run s n id vals old c.1))else([],c.2)
def updF(run:Chg->List Data->Res)(s:List wc)(n:Nat)(id:Int)(vals:List Val)(rep:Bool)(db:List Data):Res:=
 if wb4 (tabN s n) vals=0 then upd1 run s n id vals (j9 run (tabN s n) n ⟨id,vals⟩ rep db)else([],wb4 (tabN s n) vals)
def chgF(s:List wc):Nat->Chg->List Data->Res
 |0,_,_=>([],6)
 |k+1,.del n id,db=>match jai (jp db n) id with
  |none=>([],9)
  |some x=>zy (chgF s k) s n (keyF (tabN s n).key x.vals) [] true (db.set n ⟨z5 (jp db n) id⟩)
 |k+1,.upd n id vals0 rep,db=>updF (chgF s k) s n id (if rep then jj (tabN s n) 0 vals0 else vals0) rep db
end Go.Proofs.YtedaadaaibofaaaGreat.Am
namespace Go.Proofs.YtedaadaaibofaaaGreat.Am
variable {I:Nat->Int->Prop}{Q:Int->Prop}

structure wdg(Q:Int->Prop)(t:wc)(l:List RowD):Prop where
 len:l.length<=60
 ids:∀r∈l,Q r.id
 rise:Rise l
 fit:∀r∈l,r.vals.length=t.cols.length/\zq r.vals 16=true
structure DbG(I:Nat->Int->Prop)(s:List wc)(db:List Data):Prop where
 len:db.length=s.length
 rows:∀i (h:i<s.length) (h2:i<db.length),wdg (I i) s[i] db[i].rows
structure SchG(s:List wc):Prop where
 few:s.length<=5
 key0:∀t∈s,0<t.key.length
 big:∀t∈s,wad 34359738368 t
 ref:∀t∈s,∀f∈t.fks,∃n,n<s.length/\ziz s f=(n:Int)
 met:∀t∈s,∀f∈t.fks,∀n (h:n<s.length),f.table=s[n].name->f.cols.length=s[n].key.length
 tab:∀t∈s,whh t
 dflt:∀t∈s,∀c∈t.cols,zr c.dflt=true
variable {db:List Data}{n:Nat}
theorem we(h:n<db.length):jp db n=db[n].rows:=by rw[jp,yag h]
variable {s:List wc}
theorem zn(h:n<s.length):tabN s n=s[n]:=by rw[tabN,yag h]
theorem DbG.at(h:DbG I s db){n:Nat}(hn:n<s.length):wdg (I n) s[n] (jp db n):=by
 rw[we (by rw[h.len];exact hn)];exact h.rows n hn _
theorem DbG.set(h:DbG I s db){n:Nat}(hn:n<s.length){l:List RowD}(hl:wdg (I n) s[n] l):DbG I s (db.set n ⟨l⟩):=by
 refine⟨by rw[yasq];exact h.len,λi h1 h2=>?_⟩;rw[List.getElem_set];split
 ·rename_i e;subst e;exact hl
 ·exact h.rows i h1 _
variable {l:List RowD}
theorem zz{id:Int}{x:RowD}(h:jai l id=some x):x∈l/\x.id=id:=⟨List.mem_of_find?_eq_some h,by simpa using List.find?_some h⟩
variable {t:wc}
theorem wdg.drop(h:wdg Q t l)(id:Int):wdg Q t (z5 l id):=
 ⟨yai (ybt _ _) h.len,λr hr=>h.ids r (List.mem_filter.1 hr).1,List.Pairwise.filter _ h.rise,λr hr=>h.fit r (List.mem_filter.1 hr).1⟩
theorem wdg.set(h:wdg Q t l){x:RowD}(hx:x.vals.length=t.cols.length/\zq x.vals 16=true):wdg Q t (setRow l x):=by
 refine⟨by rw[setRow,yae];exact h.len,λr hr=>?_, ?_,λr hr=>?_⟩
 ·obtain⟨q,hq,rfl⟩:=List.mem_map.1 hr;split
  ·rename_i e;rw[<-beq_iff_eq.1 e];exact h.ids q hq
  ·exact h.ids q hq
 ·refine List.pairwise_map.2 (h.rise.imp λ{a b} hab=>?_);have hab:a.id<b.id:=hab;have key:∀r:RowD,(if r.id==x.id then x else r).id=r.id:=λr=>by
   split
   ·rename_i e;exact(beq_iff_eq.1 e).symm
   ·rfl
  rw[key,key];exact hab
 ·obtain⟨q,hq,rfl⟩:=List.mem_map.1 hr;split
  ·exact hx
  ·exact h.fit q hq
theorem wd{l:List Val}:zq l 16=true↔l.length<=16/\∀v∈l,zr v=true:=by
 rw[zq,yau,decide_eq_true_eq,List.all_eq_true];constructor
 ·rintro⟨h1,h2⟩;exact⟨O,h2⟩
 ·rintro⟨h1,h2⟩;exact⟨O,h2⟩
theorem wf4{t:wc}(ht:∀c∈t.cols,zr c.dflt=true):∀{l:List Val} {i:Nat},(∀v∈l,zr v=true)->(jj t i l).length=l.length/\∀v∈jj t i l,zr v=true
 |[],_,_=>⟨rfl,λv hv=>by cases hv⟩
 |v::l,i,h=>by
  obtain⟨h1,h2⟩:=wf4 ht (l:=l) (i:=i+1) λw hw=>h w (by simp[hw]);refine⟨by rw[jj,List.length_cons,List.length_cons,h1],λw hw=>?_⟩;rw[jj]at hw;rcases List.mem_cons.1 hw with rfl|hw
  ·split
   ·rw[wff];split
    ·rename_i c hc;exact ht c (List.mem_of_getElem? hc)
    ·rfl
   ·exact h v gx
  ·exact h2 w hw
theorem jbj{casc:Bool}:∀{cs:List Int} {w vals:List Val},(∀v∈w,zr v=true)->(∀v∈vals,zr v=true)->(jo casc cs w vals).length=vals.length/\∀v∈jo casc cs w vals,zr v=true
 |[],_,_,_,h=>⟨rfl,h⟩
 |c::cs,w,vals,hw,h=>by
  rw[jo];have hh:zr (if casc=true then w.headD zf else zf)=true:=by
   split
   ·cases w with
    |nil=>rfl
    |cons a r=>exact hw a gx
   ·rfl
  obtain⟨h1,h2⟩:=jbj (casc:=casc) (cs:=cs) (w:=w.tail) (vals:=vals.set c.toNat (if casc=true then w.headD zf else zf)) (λv hv=>hw v (List.mem_of_mem_tail hv)) λv hv=>by
   rcases ybm hv with hv|rfl
   ·exact h v hv
   ·exact hh
  exact⟨by rw[h1,yasq],h2⟩
def jh9(s:List wc):Chg->Prop
 |.del n _=>n<s.length
 |.upd n _ vals _=>∃h:n<s.length,vals.length=s[n].cols.length/\zq vals 16=true
def zfg(I:Nat->Int->Prop)(s:List wc)(run:Chg->List Data->Res):Prop:=∀op db,DbG I s db->jh9 s op->(run op db).2=0->DbG I s (run op db).1
section
variable {s:List wc}{run:Chg->List Data->Res}
theorem zdh(hr:zfg I s run){n:Nat}(hn:n<s.length):∀{l:List Int} {db:List Data},DbG I s db->(w6 run n l db).2=0->DbG I s (w6 run n l db).1
 |[],_,h,_=>h
 |id::l,db,h,h0=>by
  rw[w6]at h0⊢;split
  ·rename_i h1;rw[if_pos h1]at h0;exact zdh hr hn h h0
  ·rename_i h1;rw[if_neg h1]at h0;split
   ·rename_i h2;rw[if_pos h2]at h0;exact zdh hr hn (hr _ _ h hn h2) h0
   ·rename_i h2;rw[if_neg h2]at h0;exact absurd h0 h2
theorem jbo(hr:zfg I s run){n:Nat}(hn:n<s.length){t:wc}{x:RowD}{rep:Bool}{db:List Data}(h:DbG I s db)(h0:(j9 run t n x rep db).2=0):DbG I s (j9 run t n x rep db).1:=by
 rw[j9]at h0⊢;split
 ·rename_i h1;rw[if_pos h1]at h0
  cases h0
 ·rename_i h1;rw[if_neg h1]at h0;exact zdh hr hn h h0
theorem jjn(hr:zfg I s run){n:Nat}(hn:n<s.length){y:Way}{wth:List Val}{gone:Bool}{x:RowD}{db:List Data}(h:DbG I s db)(hw:∀v∈wth,zr v=true)(hx:x∈jp db n)(h0:(oneF run n y wth gone x db).2=0):DbG I s (oneF run n y wth gone x db).1:=by
 rw[oneF]at h0⊢;split
 ·rename_i h1;rw[if_pos h1]at h0;split
  ·exact h
  ·rename_i h2;rw[if_neg h2]at h0
   cases h0
 ·rename_i h1;rw[if_neg h1]at h0;split
  ·rename_i h2;rw[if_pos h2]at h0;exact hr _ _ h hn h0
  ·rename_i h2;rw[if_neg h2]at h0;obtain⟨f1,f2⟩:=(h.at hn).fit x hx;obtain⟨f3,f4⟩:=wd.1 f2;obtain⟨g1,g2⟩:=jbj (casc:=y.act==1) (cs:=y.cols) hw f4;exact hr _ _ h ⟨hn,by rw[g1];exact f1,wd.2 ⟨O,g2⟩⟩ h0
theorem zb5(hr:zfg I s run){n:Nat}(hn:n<s.length){y:Way}{key wth:List Val}{gone:Bool}(hw:∀v∈wth,zr v=true):∀{l:List Int} {db:List Data},DbG I s db->(zac run n y key wth gone l db).2=0->DbG I s (zac run n y key wth gone l db).1
 |[],_,h,_=>h
 |id::l,db,h,h0=>by
  rw[zac]at h0⊢
  cases hb:jai (jp db n) id with
  |none=>
   rw[hb]at h0;exact zb5 hr hn hw h h0
  |some x=>
   rw[hb]at h0;simp only at h0⊢;split
   ·rename_i h1;rw[if_pos h1]at h0;split
    ·rename_i h2;rw[if_pos h2]at h0;exact zb5 hr hn hw (jjn hr hn h hw (zz hb).1 h2) h0
    ·rename_i h2;rw[if_neg h2]at h0;exact absurd h0 h2
   ·rename_i h1;rw[if_neg h1]at h0;exact zb5 hr hn hw h h0
theorem jfg(hr:zfg I s run){i:Nat}(hi:i<s.length){name:List UInt8}{key wth:List Val}{gone:Bool}(hw:∀v∈wth,zr v=true):∀{l:List Fk} {db:List Data},DbG I s db->(wa4 run name i key wth gone l db).2=0->DbG I s (wa4 run name i key wth gone l db).1
 |[],_,h,_=>h
 |f::l,db,h,h0=>by
  rw[wa4]at h0⊢;split
  ·rename_i h1;rw[if_pos h1]at h0;split
   ·rename_i h2;rw[if_pos h2]at h0;exact jfg hr hi hw (zb5 hr hi hw h h2) h0
   ·rename_i h2;rw[if_neg h2]at h0;exact absurd h0 h2
  ·rename_i h1;rw[if_neg h1]at h0;exact jfg hr hi hw h h0
theorem wfg(hr:zfg I s run){name:List UInt8}{key wth:List Val}{gone:Bool}(hw:∀v∈wth,zr v=true):∀{l:List wc} {i:Nat} {db:List Data},i+l.length<=s.length->DbG I s db->(zah run name key wth gone i l db).2=0->DbG I s (zah run name key wth gone i l db).1
 |[],_,_,_,h,_=>h
 |t::l,i,db,hi,h,h0=>by
  rw[List.length_cons]at hi;rw[zah]at h0⊢;split
  ·rename_i h2;rw[if_pos h2]at h0;exact wfg hr hw O (jfg hr O hw h h2) h0
  ·rename_i h2;rw[if_neg h2]at h0;exact absurd h0 h2
theorem jbc(hr:zfg I s run){n:Nat}{key wth:List Val}{gone:Bool}(hw:∀v∈wth,zr v=true){db:List Data}(h:DbG I s db)(h0:(zy run s n key wth gone db).2=0):DbG I s (zy run s n key wth gone db).1:=
 wfg hr hw O h h0
theorem jkf{id:Int}(h:DbG I s db)(h0:(za7 s n id db).2=0):DbG I s (za7 s n id db).1:=by
 rw[za7]at h0⊢;split
 ·exact h
 ·rename_i y hy;rw[hy]at h0;simp only at h0;split
  ·rename_i h1;rw[if_pos h1]at h0
   cases h0
  ·exact h
end
theorem zdr(ht:whh t){vals:List Val}(hl:vals.length=t.cols.length)(hv:zq vals 16=true):∀v∈keyF t.key vals,zr v=true:=λv hv2=>by
 obtain⟨c,hc,rfl⟩:=List.mem_map.1 hv2;obtain⟨h1,h2⟩:=ht.key c hc;have:c.toNat<vals.length:=O;rw[wh7,yag this];exact(wd.1 hv).2 _ (yaa _)
theorem wk6{run:Chg->List Data->Res}(hs:SchG s)(hr:zfg I s run){n:Nat}(hn:n<s.length){id:Int}{vals:List Val}(hvv:vals.length=s[n].cols.length/\zq vals 16=true){rep:Bool}{db:List Data}(h:DbG I s db)(h0:(updF run s n id vals rep db).2=0):DbG I s (updF run s n id vals rep db).1:=by
 rw[updF,zn hn]at h0⊢;split
 ·rename_i h1;rw[if_pos h1]at h0;have hc:=λ(h2:(j9 run s[n] n ⟨id,vals⟩ rep db).2=0)=>jbo hr hn (t:=s[n]) (x:=⟨id,vals⟩) (rep:=rep) h h2;generalize j9 run s[n] n ⟨id,vals⟩ rep db=c at h0 hc⊢;rw[upd1]at h0⊢;split
  ·rename_i h2;rw[if_pos h2]at h0;have hc:=hc h2;generalize c.1=db1 at h0 hc⊢;split
   ·rename_i hx;rw[hx]at h0
    cases h0
   ·rename_i old hx;rw[hx]at h0;simp only at h0;have hset:=hc.set hn ((hc.at hn).set (x:=⟨id,vals⟩) hvv);have hd:(upd2 run s n id vals old db1).2=0->DbG I s (upd2 run s n id vals old db1).1:=λh3=>by
     rw[upd2,zn hn]at h3⊢;split
     ·exact hset
     ·rename_i h5;rw[if_neg h5]at h3;exact jbc hr (zdr (hs.tab _ (yaa hn)) hvv.1 hvv.2) hset h3
    generalize upd2 run s n id vals old db1=d at h0 hd⊢;rw[upd3]at h0⊢;split
    ·rename_i h4;rw[if_pos h4]at h0;exact jkf (hd h4) h0
    ·rename_i h4;rw[if_neg h4]at h0;exact absurd h0 h4
  ·rename_i h2;rw[if_neg h2]at h0;exact absurd h0 h2
 ·rename_i h1;rw[if_neg h1]at h0;exact absurd h0 h1
theorem zf5(hs:SchG s){n:Nat}(hn:n<s.length){vals:List Val}(hl:vals.length=s[n].cols.length)(hv:zq vals 16=true)(rep:Bool):(if rep=true then jj s[n] 0 vals else vals).length=s[n].cols.length/\zq (if rep=true then jj s[n] 0 vals else vals) 16=true:=by
 split
 ·obtain⟨g1,g2⟩:=wf4 (hs.dflt _ (yaa hn)) (i:=0) (wd.1 hv).2;exact⟨by rw[g1];exact hl,wd.2 ⟨by rw[g1];exact(wd.1 hv).1,g2⟩⟩
 ·exact⟨hl,hv⟩
theorem ja7{s:List wc}(hs:SchG s):∀k,zfg I s (chgF s k)
 |0=>λop db h ho h0=>by
  rw[chgF]at h0
  cases h0
 |k+1=>λop db h ho h0=>by
  have hr:=ja7 hs k
  cases op with
  |del n id=>
   have hn:n<s.length:=ho;rw[chgF]at h0⊢;split
   ·rename_i hx;rw[hx]at h0
    cases h0
   ·rename_i x hx;rw[hx]at h0;simp only at h0;exact jbc hr (λv hv=>by cases hv) (h.set hn ((h.at hn).drop id)) h0
  |upd n id vals0 rep=>
   obtain⟨hn,hl,hv⟩:=ho;rw[chgF,zn hn]at h0⊢;exact wk6 hs hr hn (zf5 hs hn hl hv rep) h h0
end Go.Proofs.YtedaadaaibofaaaGreat.Am
namespace Go.Proofs.YtedaadaaibofaaaGreat.Am
def idOf:Ce->Option Nat|.sl id _ _ _ _=>some id|_=>none
variable {vals:List Val}
theorem jb5:∀e∈vals.map encV,e.length=3/\∀x∈e,Flat x:=λe he=>by
 obtain⟨v,_,rfl⟩:=List.mem_map.1 he;refine⟨rfl,λx hx=>?_⟩;simp only[encV,List.mem_cons,List.not_mem_nil,or_false]at hx;rcases hx with rfl|rfl|rfl
 ·exact .int _ _
 ·exact .int _ _
 ·exact .str _
variable {V:jb}{id v:Nat}{ys:List (List Ce)}
theorem zk7{junk:List (List Ce)}(hg:V.get id=some (v,ys++junk))(hy:∀e∈ys,∀x∈e,Old 0 x):FrzV V 0 (.c (vec id v ys junk)) (.c (.fz ys)):=by
 refine .c (.sl _ _ _ _ _ (ys++junk) _ (yac _) hg gx rfl (λi hi=>?_) (λi j hi hj=>?_))
 ·simp only[Nat.zero_add];rw[yarq hi]
 ·have e:(ys++junk)[0+i]'gq=ys[i]:=by
   simp only[Nat.zero_add];rw[yarq hi]
  simp only[e];exact .same _ (hy _ (yaa hi) _ (yaa hj))
inductive Vl(V:jb):List Val->Ce->Prop where
 |nil:Vl V [] .nils
 |sl (vals:List Val) (id v:Nat) (junk:List (List Ce)) (hg:V.get id=some (v,vals.map encV++junk)) (hj:Jk 3 junk):Vl V vals (vec id v (vals.map encV) junk)
theorem Vl.frame{V':jb}{x:Ce}(h:Vl V vals x)(hf:∀a,idOf x=some a->V'.get a=V.get a):Vl V' vals x:=by
 cases h with
 |nil=>exact .nil
 |sl vals id v junk hg hj=>exact .sl _ id v junk (by rw[hf id rfl];exact hg) hj
theorem Vl.frz{V:jb}{vals:List Val}{x:Ce}(h:Vl V vals x):FrzV V 0 (.c x) (.c (.fz (vals.map encV))):=by
 cases h with
 |nil=>exact .c .nil
 |sl vals id v junk hg hj=>exact zk7 hg λe he x hx=>((jb5 e he).2 x hx).old _
abbrev PRow:=RowD×Ce
def encP(p:PRow):List Ce:=[.int .i64 p.1.id,p.2]
inductive Tb(V:jb)(ok:Option Int->Nat->Prop):List RowD->Ce->Prop where
 |sl (rows:List RowD) (ps:List PRow) (id v:Nat) (junk:List (List Ce)) (hr:ps.map (·.1)=rows) (hg:V.get id=some (v,ps.map encP++junk)) (hj:Jk 2 junk) (h0:ok none id)
  (hp:∀p∈ps,Vl V p.1.vals p.2/\∀a,idOf p.2=some a->ok (some p.1.id) a):Tb V ok rows (vec id v (ps.map encP) junk)
structure ChL where
 c:Nat
 vc:Nat
 d:Nat
 vd:Nat
 junk:List (List Ce)
def cells(xs:List Ce):List (List Ce):=xs.map λx=>[x]
def Own(L:ChL)(n next:Nat)(lab:Nat->Nat×Option Int)(i:Nat)(w:Option Int)(a:Nat):Prop:=lab a=(i,w)/\n<=a/\a<next/\a≠L.c/\a≠L.d
structure wt(L:ChL)(n:Nat)(s:List wc)(xs:List Ce)(db:List Data)(V:jb):Prop where
 c:V.get L.c=some (L.vc,[[.fz (s.map ja),.sl L.d L.vd 0 db.length (db.length+L.junk.length)]])
 d:V.get L.d=some (L.vd,cells xs++L.junk)
 jk:Jk 1 L.junk
 len:xs.length=db.length
 tb:∃lab,∀i (h:i<xs.length) (h2:i<db.length),Tb V (Own L n V.next lab i) db[i].rows xs[i]
 nc:n<=L.c
 nd:n<=L.d
 cd:L.c≠L.d
 lc:L.c<V.next
 ld:L.d<V.next
structure Kept(n:Nat)(V V':jb):Prop where
 next:V.next<=V'.next
 get:∀a,a<n->V'.get a=V.get a
 full:∀a,a<V'.next->(a<V.next->(V.get a).isSome=true)->(V'.get a).isSome=true
variable {n:Nat}
theorem Kept.refl:Kept n V V:=⟨yaf _,λ_ _=>rfl,λa ha h=>h ha⟩
theorem Kept.trans{V' V'':jb}(h:Kept n V V')(k:Kept n V' V''):Kept n V V'':=⟨yai h.next k.next,λa ha=>(k.get a ha).trans (h.get a ha),λa ha hs=>k.full a ha λh1=>h.full a h1 hs⟩
variable {y:Nat×List (List Ce)}
theorem Kept.put(h:n<=id):Kept n V (V.put id y):=⟨yaf _,λa ha=>if_neg O,λa ha hs=>by
 show(if a=id then _ else _:Option _).isSome=true;split
 ·rfl
 ·exact hs ha⟩
theorem Kept.ofE(h:n<=V.next)(l:List (Nat×List (List Ce))):Kept n V (E V l):=⟨by rw[zan];exact ybc _ _,λa ha=>E_lt (yay ha h),λa ha hs=>by
 by_cases h1:a<V.next
 ·rw[E_lt h1];exact hs h1
 ·rw[E_ge h1,yag (by rw[zan]at ha;omega)]
  rfl⟩
variable {ok:Option Int->Nat->Prop}{rows:List RowD}
theorem Tb.frame{V':jb}{ok':Option Int->Nat->Prop}{x:Ce}(h:Tb V ok rows x)(hok:∀w a,ok w a->ok' w a)(hf:∀w a,ok w a->V'.get a=V.get a):Tb V' ok' rows x:=by
 cases h with
 |sl ps id v junk hr hg hj h0 hp=>exact .sl _ ps id v junk hr (by rw[hf _ id h0];exact hg) hj (hok _ _ h0) λp hm=>⟨(hp p hm).1.frame λa ha=>hf _ a ((hp p hm).2 a ha),λa ha=>hok _ _ ((hp p hm).2 a ha)⟩
theorem Tb.frz{V:jb}{ok:Option Int->Nat->Prop}{rows:List RowD}{x:Ce}(h:Tb V ok rows x):FrzV V 0 (.c x) (.c (.fz (rows.map jc))):=by
 cases h with
 |sl ps id v junk hr hg hj h0 hp=>
  subst hr;refine .c (.sl _ _ _ _ _ (ps.map encP++junk) _ (yac _) hg gx gx (λi hi=>?_) (λi j hi hj=>?_))
  ·simp only[Nat.zero_add];rw[yarq hi];simp[jc,encP]
  ·have hi2:i<ps.length:=by simpa using hi
   have e:(ps.map encP++junk)[0+i]'gq=encP ps[i]:=by
    simp only[Nat.zero_add];rw[yarq hi];simp
   have e2:((ps.map (·.1)).map jc)[i]'(by simp;exact hi2)=jc ps[i].1:=gx;have hj2:j<2:=by
    rw[e2]at hj;exact hj
   simp only[e,e2];have hj3:j=0\/j=1:=O;rcases hj3 with rfl|rfl
   ·exact .same _ (.int _ _)
   ·have h1:=(hp _ (yaa hi2)).1.frz
    cases h1 with
    |c h1=>exact h1
theorem Tb.len{x:Ce}(h:Tb V ok rows x){fr:Fr}{o:Opd}(hx:o.ev fr=some (.c x)):aop (.len false o) fr V=some (.c (.int .i64 (rows.length:Int)),V):=by
 cases h with
 |sl ps id v junk hr hg hj h0 hp=>subst hr;simp[aop,hx,vec]
section
variable {L:ChL}{n:Nat}{s:List wc}{xs:List Ce}{db:List Data}{V:jb}
variable {i:Nat}
theorem Own.grow{m m':Nat}{lab:Nat->Nat×Option Int}{w:Option Int}{a:Nat}(h:Own L n m lab i w a)(hm:m<=m'):Own L n m' lab i w a:=⟨h.1,h.2.1,yay h.2.2.1 hm,h.2.2.2⟩
theorem wt.mono(h:wt L n s xs db V){V':jb}(h1:V.next<=V'.next)(hf:∀a,a<V.next->V'.get a=V.get a):wt L n s xs db V' where
 c:=by rw[hf _ h.lc];exact h.c
 d:=by rw[hf _ h.ld];exact h.d
 jk:=h.jk
 len:=h.len
 tb:=let⟨lab,hl⟩:=h.tb;⟨lab,λi h3 h2=>(hl i h3 h2).frame (λw a ha=>ha.grow h1) λw a ha=>hf a ha.2.2.1⟩
 nc:=h.nc
 nd:=h.nd
 cd:=h.cd
 lc:=yay h.lc h1
 ld:=yay h.ld h1
theorem wt.le(h:wt L n s xs db V):n<=V.next:=yai h.nc (Nat.le_of_lt h.lc)
theorem wt.grow(h:wt L n s xs db V)(l:List (Nat×List (List Ce))):wt L n s xs db (E V l):=h.mono (by rw[zan];exact ybc _ _) λa ha=>E_lt ha
theorem Kept.grow(h:wt L n s xs db V)(l:List (Nat×List (List Ce))):Kept n V (E V l):=.ofE h.le l
variable {junk:List (List Ce)}
theorem zau(h:i<xs.length):(cells xs++junk)[0+i]?=some [xs[i]]:=by
 rw[Nat.zero_add,List.getElem?_append_left (by simpa [cells]using h)];simp[cells,h]
theorem whi{x:Ce}(h:i<xs.length):(cells xs++junk).set (0+i) [x]=cells (xs.set i x)++junk:=by
 rw[Nat.zero_add,List.set_append_left _ _ (by simpa [cells]using h),cells,cells,List.map_set]
theorem wt.frzR(h:wt L n s xs db V){k:Nat}(hk:k<db.length)(hk2:k<xs.length):FrzV V 0 (.c xs[k]) (.c (.fz (db[k].rows.map jc))):=let⟨_,hl⟩:=h.tb;(hl k hk2 hk).frz
theorem wt.frz(h:wt L n s xs db V):FrzV V 0 (.c (.sl L.d L.vd 0 db.length (db.length+L.junk.length))) (.c (.fz (db.map wa))):=by
 refine .c ?_;refine .sl _ _ _ _ _ (cells xs++L.junk) _ (Nat.zero_le _) h.d (by simp[cells,h.len]) gx (λi hi=>?_) (λi j hi hj=>?_)
 ·have hi3:i<xs.length:=by rw[h.len];exact hi
  have e:(cells xs++L.junk)[0+i]'(by simp[cells];omega)=[xs[i]]:=by
   have:=zau (junk:=L.junk) hi3;exact(List.getElem?_eq_some_iff.1 this).2
  rw[e];simp[wa]
 ·have hi3:i<xs.length:=by rw[h.len];exact hi
  have e:(cells xs++L.junk)[0+i]'(by simp[cells];omega)=[xs[i]]:=by
   have:=zau (junk:=L.junk) hi3;exact(List.getElem?_eq_some_iff.1 this).2
  have hj0:j=0:=by
   simp[wa]at hj;exact hj
  subst hj0;have hz:=h.frzR hi hi3
  cases hz with
  |c hz=>
   have e1:((db.map wa)[i]'(by simpa using hi))[0]'hj=.fz (db[i].rows.map jc):=by simp[wa]
   simp only[e1,e];exact hz
theorem wt.upd(h:wt L n s xs db V){lab:Nat->Nat×Option Int}(hl:∀i (h:i<xs.length) (h2:i<db.length),Tb V (Own L n V.next lab i) db[i].rows xs[i]){i:Nat}(hi:i<xs.length){V2:jb}{x:Ce}{rows:List RowD}{new:Nat->Option Int}(h1:V.next<=V2.next)
 (hf:∀a,a<V.next->a≠L.d->(¬∃w,Own L n V.next lab i w a)->V2.get a=V.get a) (hd:V2.get L.d=some (L.vd,cells (xs.set i x)++L.junk)) (ht:Tb V2 (λw a=>Own L n V.next lab i w a\/(V.next<=a/\a<V2.next/\new a=w)) rows x):
 wt L n s (xs.set i x) (db.set i ⟨rows⟩) V2:=by
 refine⟨?_,hd,h.jk, ?_,⟨λa=>if a<V.next then lab a else(i,new a),λk hk hk2=>?_⟩,h.nc,h.nd,h.cd,yay h.lc h1,yay h.ld h1⟩
 ·rw[hf _ h.lc h.cd λ⟨w,hw⟩=>hw.2.2.2.1 rfl,yasq];exact h.c
 ·rw[yasq,yasq];exact h.len
 ·rw[yasq]at hk hk2;simp only[List.getElem_set];by_cases e:i=k
  ·subst e;simp only[if_true];refine ht.frame (λw a ha=>?_) λ_ _ _=>rfl;rcases ha with ha|⟨h2,h3,h4⟩
   ·refine⟨?_,ha.2.1,yay ha.2.2.1 h1,ha.2.2.2⟩;show(if a<V.next then lab a else(i,new a))=(i,w);rw[if_pos ha.2.2.1];exact ha.1
   ·have:=h.lc;have:=h.ld;have:=h.nc;refine⟨?_,O,h3,O,O⟩;show(if a<V.next then lab a else(i,new a))=(i,w);rw[if_neg O,h4]
  ·simp only[if_neg e];refine(hl k hk hk2).frame (λw a ha=>?_) λw a ha=>?_
   ·refine⟨?_,ha.2.1,yay ha.2.2.1 h1,ha.2.2.2⟩;show(if a<V.next then lab a else(i,new a))=(k,w);rw[if_pos ha.2.2.1];exact ha.1
   ·refine hf a ha.2.2.1 ha.2.2.2.2 λ⟨w2,h2⟩=>e ?_;have:=h2.1.symm.trans ha.1;exact congrArg Prod.fst this
end
structure At(L:ChL)(n k:Nat)(lab:Nat->Nat×Option Int)(V:jb)(rows:List RowD)(x:Ce)(ps:List PRow)(id v:Nat)(junk:List (List Ce)):Prop where
 x:x=vec id v (ps.map encP) junk
 get:V.get id=some (v,ps.map encP++junk)
 jk:Jk 2 junk
 rows:ps.map (·.1)=rows
 own:Own L n V.next lab k none id
 vl:∀p∈ps,Vl V p.1.vals p.2/\∀a,idOf p.2=some a->Own L n V.next lab k (some p.1.id) a
variable {L:ChL}{s:List wc}{xs:List Ce}{db:List Data}
theorem wt.any(h:wt L n s xs db V){k:Nat}(hk:k<db.length)(hk2:k<xs.length):
 ∃lab ps id v junk,At L n k lab V db[k].rows xs[k] ps id v junk/\∀i (h:i<xs.length) (h2:i<db.length),Tb V (Own L n V.next lab i) db[i].rows xs[i]:=by
 obtain⟨lab,hl⟩:=h.tb;have ht:=hl k hk2 hk;generalize hx:xs[k]=x at ht⊢;generalize db[k].rows=rows at ht⊢
 cases ht with
 |sl ps id v junk hr hg hj h00 hp=>exact⟨lab,ps,id,v,junk,⟨rfl,hg,hj,hr,h00,hp⟩,hl⟩
theorem wt.some(h:wt L n s xs db V){k:Nat}(hk:k<db.length)(hk2:k<xs.length)(_:0<db[k].rows.length):
 ∃lab ps id v junk,At L n k lab V db[k].rows xs[k] ps id v junk/\∀i (h:i<xs.length) (h2:i<db.length),Tb V (Own L n V.next lab i) db[i].rows xs[i]:=h.any hk hk2
theorem jdr(h:wt L n s xs db V){k:Nat}(hk:k<db.length)(hk2:k<xs.length){fr:Fr}{o:Opd}(hx:o.ev fr=Option.some (.c xs[k])):aop (.len false o) fr V=Option.some (.c (.int .i64 (db[k].rows.length:Int)),V):=
 let⟨_,hl⟩:=h.tb
 (hl k hk2 hk).len hx
section
variable {L:ChL}{n k:Nat}{lab:Nat->Nat×Option Int}{V:jb}{rows:List RowD}{x:Ce}{ps:List PRow}{id v:Nat}{junk:List (List Ce)}
theorem At.len(h:At L n k lab V rows x ps id v junk):ps.length=rows.length:=by
 rw[<-h.rows,yae]
theorem At.row(h:At L n k lab V rows x ps id v junk){j:Nat}(hj:j<rows.length):(ps[j]'(by rw[h.len];exact hj)).1=rows[j]:=by
 have:=h.rows;subst this;simp
theorem At.frz(h:At L n k lab V rows x ps id v junk){j:Nat}(hj:j<rows.length):FrzV V 0 (.c (ps[j]'(by rw[h.len];exact hj)).2) (.c (.fz (rows[j].vals.map encV))):=by
 have h1:=(h.vl _ (yaa (by rw[h.len];exact hj))).1.frz;rw[h.row hj]at h1;exact h1
theorem At.at(h:At L n k lab V rows x ps id v junk){j:Nat}(hj:j<rows.length):(ps.map encP++junk)[0+j]?=Option.some (encP (ps[j]'(by rw[h.len];exact hj))):=by
 have hj2:j<ps.length:=by rw[h.len];exact hj
 rw[Nat.zero_add,List.getElem?_append_left (by simpa using hj2)];simp[hj2]
end
theorem wac(d:Data)(n:Int)(hx:d.rows.length<=34359738368):Pure Tryz.prog 70 [.agg (wa d),.c (.int .i64 n)] (.c (.int .i64 (idxA (λr:RowD=>r.id==n) d.rows 0))):=by
 refine yaq [2] jhu λG=>?_;repeat' first|refine X ?_|exact yaF|refine yaS ?_ ?_<;>intro _
 refine Go.keep [1,2,5] (Go.loops (I:=λm fr V=>∃i:Nat,∃k:Int,m=d.rows.length-i/\i<=d.rows.length/\k=i/\idxA (λr:RowD=>r.id==n) d.rows 0=idxA (λr:RowD=>r.id==n) (d.rows.drop i) k/\
  fr=[(1,.c (.int .i64 n)),(2,.c (.fp (wa d))),(5,.c (.int .i64 k))]/\V=E G []) ?_ _ _ _ ⟨0,_,rfl,yac _,rfl,rfl,rfl,rfl⟩)
 rintro m fr V ⟨i,k,rfl,hi,hn,hsl,rfl,rfl⟩ hrec;by_cases hlt:i<d.rows.length
 ·repeat' first|refine X ?_|((first|apply yG|apply yH|apply yI);exact rfl;(first|exact yax jc hn hlt))|exact yaF|refine yaS ?_ ?_<;>intro _
  ·rename_i h;refine .ret rfl (.int ?_);rw[hsl,List.drop_eq_getElem_cons hlt,idxA,if_pos (by rw[h];simp)]
  ·rename_i h;refine Go.keep [1,2,5] (hrec _ _ _ O ⟨i+1,_,rfl,hlt,wb hn O, ?_,rfl,rfl⟩);rw[hsl,List.drop_eq_getElem_cons hlt,idxA,if_neg (by simpa using h),zk O O]
 ·repeat' first|refine X ?_|exact yaF|refine yaS ?_ ?_<;>intro _
  refine .ret rfl (.int ?_);rw[hsl,yad O]
  rfl
theorem wd3(t:wc)(vals:List Val)(hl:vals.length=t.cols.length)(hT:whh t)(hv:zq vals 16=true):Pure Tryz.prog 321 [.agg (ja t),.c (.fz (vals.map encV))] (.c (.int .i64 (wb4 t vals))):=by
 refine yas zcg λG=>?_;have c1:=wf3 t vals hl hT.cols8;have c2:=zfe t vals hT.chk3 (λc hc=>by rw[hl];exact hT.chk c hc) hv;rw[wb4]
 cases h1:jav t 0 vals
 ·rw[h1]at c1
  cases h2:t.checks.any (za1 vals)
  ·rw[h2]at c2;repeat' first|refine X ?_|refine yaC (c1) ?_|refine yaC (c2) ?_|exact yaF|refine yaS ?_ ?_<;>intro _
   exact .ret rfl (.int rfl)
  ·rw[h2]at c2;repeat' first|refine X ?_|refine yaC (c1) ?_|refine yaC (c2) ?_|exact yaF|refine yaS ?_ ?_<;>intro _
   exact .ret rfl (.int rfl)
 ·rw[h1]at c1;repeat' first|refine X ?_|refine yaC (c1) ?_|exact yaF|refine yaS ?_ ?_<;>intro _
  exact .ret rfl (.int rfl)
theorem wjn{r x:RowD}{k:List Int}(h:r.id≠x.id):wcs [r] x k=jfe x.vals r k:=by
 rw[wcs,jfe,w8,List.filter_cons]
 cases hb:hasB k (keyF k x.vals) r.vals
 ·simp
 ·simp[h]
theorem zhj(t:wc)(d:Data)(x:RowD)(hd:d.rows.length<=60)(hK:jiz t d x):Pure Tryz.prog 363 [.agg (ja t),.agg (wa d),.agg (jc x)] (.c (.fz ((j4 d.rows (jn t) x.id x.vals).map encI))):=by
 refine yas zbv λG=>?_;repeat' first|refine X ?_|exact yaF|refine yaS ?_ ?_<;>intro _
 refine Go.keep [3,4,5,7,8] (Go.loops (I:=λm fr V=>∃(i:Nat) (k:Int) (v:Nat) (junk:List (List Ce)),m=d.rows.length-i/\i<=d.rows.length/\k=i/\Jk 1 junk/\
  fr=[(3,.c (.fp (ja t))),(4,.c (.fp (wa d))),(5,.c (.fp (jc x))),(7,.c (vec (G.next+0) v ((j4 (d.rows.take i) (jn t) x.id x.vals).map encI) junk)),(8,.c (.int .i64 k))]/\V=E G [(v,(j4 (d.rows.take i) (jn t) x.id x.vals).map encI++junk)]) ?_ _ _ _ ⟨0,_,0,[],rfl,yac _,rfl,Jk.nil,rfl,rfl⟩)
 rintro m fr V ⟨i,k,v,junk,rfl,hi,hk,hj,rfl,rfl⟩ hrec;by_cases hlt:i<d.rows.length
 ·have hst:=jea (keys:=jn t) (id:=x.id) (vals:=x.vals) hlt;have hlen:(j4 (d.rows.take i) (jn t) x.id x.vals).length<=60:=yai zcc (by rw[yat];omega);generalize j4 (d.rows.take i) (jn t) x.id x.vals=ids at hst hlen⊢;have hbd:((ids.map encI).length+1)*8<=140737488355328:=by rw[yae];omega
  have hz1:∀e∈ids.map encI,e.length=1:=λe he=>(wak e he).1;have e1:ids.map encI++[encI d.rows[i].id]=(ids++[d.rows[i].id]).map encI:=gx;have c1:=wfe t ⟨[d.rows[i]]⟩ x gx hK.uniq hK.len hK.own (λk hk r hr=>by
   have hr2:r=d.rows[i]:=by simpa using hr
   rw[hr2];exact hK.far k hk _ (yaa hlt))
  by_cases h0:d.rows[i].id=x.id
  ·rw[show(!(d.rows[i].id==x.id)&&(jn t).any (jfe x.vals d.rows[i]))=false by simp[h0],if_neg Bool.false_ne_true,List.append_nil]at hst;repeat' first|refine X ?_|((first|apply yG|apply yH|apply yI);exact rfl;(first|exact yax jc hk hlt))|exact yaF|refine yaS ?_ ?_<;>intro _
   exact Go.keep [3,4,5,7,8] (hrec _ _ _ O ⟨i+1,_,v,junk,rfl,hlt,wb hk O,hj,by rw[hst]<;>rfl,by rw[hst]<;>rfl⟩)
  ·have hany:(jn t).any (wcs (Data.rows ⟨[d.rows[i]]⟩) x)=(jn t).any (jfe x.vals d.rows[i]):=by
    congr 1
    funext k;exact wjn h0
   rw[hany]at c1;rw[show(d.rows[i].id==x.id)=false from beq_eq_false_iff_ne.2 h0,Bool.not_false,yav]at hst;generalize (jn t).any (jfe x.vals d.rows[i])=B at c1 hst
   cases B
   ·rw[if_neg yah,ybe]at hst;repeat' first|refine X ?_|((first|apply yG|apply yH|apply yI);exact rfl;(first|exact yax jc hk hlt))|refine yaC (c1) ?_|exact yaF|refine yaS ?_ ?_<;>intro _
    exact Go.keep [3,4,5,7,8] (hrec _ _ _ O ⟨i+1,_,v,junk,rfl,hlt,wb hk O,hj,by rw[hst]<;>rfl,by rw[hst]<;>rfl⟩)
   ·rw[if_pos rfl]at hst;repeat' first|refine X ?_|((first|apply yG|apply yH|apply yI);exact rfl;(first|exact yax jc hk hlt))|(apply Go.app1;exact rfl;exact rfl;exact rfl;exact rfl;exact rfl;exact hz1;exact hj;exact rfl;exact hbd;intro v' junk' hj')|refine yaC (c1) ?_|exact yaF|refine yaS ?_ ?_<;>intro _
    refine Go.keep [3,4,5,7,8] (hrec _ _ _ O ⟨i+1,_,v',junk',rfl,hlt,wb hk O,hj', ?_, ?_⟩)
    ·rw[hst,<-e1];rfl
    ·rw[hst,<-e1];rfl
 ·rw[yao O];repeat' first|refine X ?_|exact yaF|refine yaS ?_ ?_<;>intro _
  exact .ret rfl ⟨_,rfl,wbt (n:=0) (k:=0) rfl zjm (yac _) (yaf _)⟩
theorem zjo(d:Data)(n:Int)(hd:d.rows.length<=60):Pure Tryz.prog 328 [.agg (wa d),.c (.int .i64 n)] (.agg (wa ⟨z5 d.rows n⟩)):=by
 refine yaq [2,29] wgk λG=>?_;repeat' first|refine X ?_|exact yaF|refine yaS ?_ ?_<;>intro _
 refine Go.keep [1,2,4,5,6] (Go.loops (I:=λm fr V=>∃(i:Nat) (k:Int) (v:Nat) (junk:List (List Ce)),m=d.rows.length-i/\i<=d.rows.length/\k=i/\Jk 2 junk/\
  fr=[(1,.c (.int .i64 n)),(2,.c (.fp (wa d))),(4,.c (.ptr (G.next+0) 0 0 0)),(5,.c (vec (G.next+1) v ((z5 (d.rows.take i) n).map jc) junk)),(6,.c (.int .i64 k))]/\V=E G [(0,[[.nils]]),(v,(z5 (d.rows.take i) n).map jc++junk)]) ?_ _ _ _ ⟨0,_,0,[],rfl,yac _,rfl,Jk.nil,rfl,rfl⟩)
 rintro m fr V ⟨i,k,v,junk,rfl,hi,hk,hj,rfl,rfl⟩ hrec;have hlen:(z5 (d.rows.take i) n).length<=60:=yai (ybt _ _) (by rw[yat];omega);by_cases hlt:i<d.rows.length
 ·have hst:z5 (d.rows.take (i+1)) n=z5 (d.rows.take i) n++if(!(d.rows[i].id==n))=true then[d.rows[i]]else[]:=by
   rw[z5,yaj hlt,List.filter_append,List.filter_cons,z5];split<;>rfl
  generalize z5 (d.rows.take i) n=ys at hst hlen⊢;have hbd:((ys.map jc).length+1)*32<=140737488355328:=by rw[yae];omega
  have e1:ys.map jc++[jc d.rows[i]]=(ys++[d.rows[i]]).map jc:=gx;by_cases h0:d.rows[i].id=n
  ·rw[show(d.rows[i].id==n)=true from beq_iff_eq.2 h0,Bool.not_true,if_neg yah,ybe]at hst;repeat' first|refine X ?_|((first|apply yG|apply yH|apply yI);exact rfl;(first|exact yax jc hk hlt))|exact yaF|refine yaS ?_ ?_<;>intro _
   all_goals first
    |contradiction
    |skip
   exact Go.keep [1,2,4,5,6] (hrec _ _ _ O ⟨i+1,_,v,junk,rfl,hlt,wb hk O,hj,by rw[hst]<;>rfl,by rw[hst]<;>rfl⟩)
  ·rw[show(d.rows[i].id==n)=false from beq_eq_false_iff_ne.2 h0,Bool.not_false,if_pos rfl]at hst;repeat' first|refine X ?_|((first|apply yG|apply yH|apply yI);exact rfl;(first|exact yax jc hk hlt))|(apply Go.app1;exact rfl;exact rfl;exact rfl;exact rfl;exact rfl;exact wat;exact hj;exact rfl;exact hbd;intro v' junk' hj')|exact yaF|refine yaS ?_ ?_<;>intro _
   all_goals first
    |contradiction
    |skip
   refine Go.keep [1,2,4,5,6] (hrec _ _ _ O ⟨i+1,_,v',junk',rfl,hlt,wb hk O,hj', ?_, ?_⟩)
   ·rw[hst,<-e1];rfl
   ·rw[hst,<-e1];rfl
 ·rw[yao O]at hlen⊢;generalize z5 d.rows n=ys at hlen⊢;repeat' first|refine X ?_|exact yaF|refine yaS ?_ ?_<;>intro _
  refine .ret (zay rfl rfl rfl (yac _) rfl) ⟨_,rfl,.agg rfl λj hj0=>?_⟩;have hj1:j=0:=by simp at hj0;omega
  subst hj1
  have hz:FrzV (E G [(0,[[vec (G.next+1) v (ys.map jc) junk]]),(v,ys.map jc++junk)]) G.next (.c (vec (G.next+1) v (ys.map jc) junk)) (.c (.fz (ys.map jc))):=
   wav (k:=1) rfl (jd3 _) (ybc _ _)
  cases hz with
  |c h=>exact h
theorem jf5(l:List wc):OldL n (l.map ja):=λe he c hc=>by
 obtain⟨a,_,rfl⟩:=List.mem_map.1 he;simp only[ja,List.mem_cons,List.not_mem_nil,or_false]at hc;rcases hc with rfl|rfl|rfl|rfl|rfl|rfl
 ·exact .str _
 ·exact jl (wh4 _)
 ·exact jl (wd2 _)
 ·exact jl (weo _)
 ·exact jl (jgo _)
 ·exact jl (wji _)
theorem zc0{α:Type}(p:α->Bool):∀(l:List α) (i:Int),(idxA p l i=-1/\l.find? p=none)\/∃k,∃h:k<l.length,idxA p l i=i+(k:Int)/\l.find? p=some l[k]
 |[],i=>.inl ⟨rfl,rfl⟩
 |a::l,i=>by
  rw[idxA,List.find?_cons]
  cases h:p a
  ·rcases zc0 p l (i+1)with⟨h1,h2⟩|⟨k,hk,h1,h2⟩
   ·exact .inl ⟨h1,h2⟩
   ·exact .inr ⟨k+1,by simpa using hk,by simp only[Bool.false_eq_true,if_false];rw[h1];omega,h2⟩
  ·exact .inr ⟨0,gx,gx,rfl⟩
theorem zj(l:List RowD)(id:Int):(idxA (λr:RowD=>r.id==id) l 0=-1/\jai l id=none)\/∃k,∃h:k<l.length,idxA (λr:RowD=>r.id==id) l 0=(k:Int)/\jai l id=some l[k]:=by
 rcases zc0 (λr:RowD=>r.id==id) l 0 with h|⟨k,hk,h1,h2⟩
 ·exact .inl h
 ·exact .inr ⟨k,hk,by rw[h1];omega,h2⟩
theorem web{t:wc}:∀{l:List Val} {i k:Nat},(h:i<l.length)->jj t k (l.take (i+1))=jj t k (l.take i)++[if l[i].k==0&&zx t (k+i)then wff t (k+i)else l[i]]
 |[],i,k,h=>by simp at h
 |v::l,0,k,h=>by simp[jj]
 |v::l,i+1,k,h=>by
  rw[List.take_succ_cons,jj,web (by simpa using h),List.take_succ_cons,jj];simp only[List.cons_append,List.getElem_cons_succ];rw[show((k+1:Nat):Int)+(i:Int)=(k:Int)+((i+1:Nat):Int) by omega,show k+1+i=k+(i+1) by omega]
theorem jgr{t:wc}:∀y∈(AV.c (.fp (ja t))).all,Old n y:=λy hy=>by
 simp only[AV.all,List.mem_singleton]at hy;subst hy;exact .fp _ λj hj=>jf5 [t] _ (List.mem_singleton.2 rfl) _ (yaa hj)
theorem zfh{t:wc}:∀{l:List Val} {i:Nat},(jj t i l).length=l.length
 |[],_=>rfl
 |v::l,i=>by rw[jj,List.length_cons,List.length_cons,zfh]
theorem jfh(t:wc)(vals:List Val)(hl:vals.length=t.cols.length)(hc:t.cols.length<=8):Pure Tryz.prog 320 [.agg (ja t),.c (.fz (vals.map encV))] (.c (.fz ((jj t 0 vals).map encV))):=by
 refine yap [2,38] we3 λG hS hA=>?_;clear hA;repeat' first|refine X ?_|exact yaF|refine yaS ?_ ?_<;>intro _
 refine Go.keep [1,2,5,6] (Go.loops (I:=λm fr V=>∃(i:Nat) (k:Int) (v:Nat) (junk:List (List Ce)),m=vals.length-i/\i<=vals.length/\k=i/\Jk 3 junk/\
  fr=[(1,.c (.fz (vals.map encV))),(2,.c (.fp (ja t))),(5,.c (vec (G.next+0) v ((jj t 0 (vals.take i)).map encV) junk)),(6,.c (.int .i64 k))]/\V=E G [(v,(jj t 0 (vals.take i)).map encV++junk)]) ?_ _ _ _ ⟨0,_,0,[],rfl,yac _,rfl,Jk.nil,rfl,rfl⟩)
 rintro m fr V ⟨i,k,v,junk,rfl,hi,hk,hj,rfl,rfl⟩ hrec;have hlen:(jj t 0 (vals.take i)).length<=8:=by rw[zfh,yat];omega
 by_cases hlt:i<vals.length
 ·have hlc:i<t.cols.length:=O;have hnn:zx t ((0:Nat)+i)=t.cols[i].notNull:=by rw[zx,show((0:Nat):Int)+(i:Int)=(i:Int) by omega,ybb,yag hlc]
  have hdf:wff t (0+i)=t.cols[i].dflt:=by rw[wff,ybk,yag hlc]
  have hst:=web (t:=t) (k:=0) hlt;rw[hnn,hdf]at hst;generalize jj t 0 (vals.take i)=ys at hst hlen⊢;have hbd:((ys.map encV).length+1)*32<=140737488355328:=by rw[yae];omega
  by_cases h0:vals[i].k=0
  ·cases hb:t.cols[i].notNull
   ·rw[hb,ybj,if_neg yah]at hst;repeat' first|refine yaN ?_|((first|apply yG|apply yH|apply yI);exact rfl;(first|exact yax encV hk hlt|exact yax jf hk hlc))|(apply Go.app1;exact rfl;exact rfl;exact rfl;exact rfl;exact rfl;exact lens;exact hj;exact rfl;exact hbd;intro v' junk' hj')|exact yaF|refine yaS ?_ ?_<;>intro _
    all_goals first
     |(refine Go.freezeN (l:=[(v',ys.map encV++[encV vals[i]]++junk')]) (m:=[(0,[encV vals[i]])]) (fr':=[(1,.c (.fz (vals.map encV))),(2,.c (.fp (ja t))),(5,.c (vec (G.next+0) v' (ys.map encV++[encV vals[i]]) junk')),(6,.c (.int .i64 (IntKind.i64.wrap (k+1))))]) hS (λb hb e he x hx=>?_) (yaf _) (.frz rfl (.refl z0) (.frz rfl (.refl jgr) (.frz rfl (.refl (zai (yal _))) (.frz rfl (.refl zu) .nil)))) ?_
       ·rw[List.mem_singleton.1 hb]at he;rcases List.mem_append.1 he with he|he
        ·rw[show ys.map encV++[encV vals[i]]=(ys++[vals[i]]).map encV by simp]at he;exact(jc5 e he x hx).old _
        ·exact((hj' e he).2 x hx).old _
       ·exact hrec _ _ _ O ⟨i+1,_,v',junk',rfl,hlt,wb hk O,hj',by rw[hst,yak]<;>rfl,by rw[hst,yak]<;>rfl⟩)
     |(exfalso;simp_all;done)
   ·rw[hb,h0,if_pos gb]at hst;repeat' first|refine yaN ?_|((first|apply yG|apply yH|apply yI);exact rfl;(first|exact yax encV hk hlt|exact yax jf hk hlc))|(apply Go.app1;exact rfl;exact rfl;exact rfl;exact rfl;exact rfl;exact lens;exact hj;exact rfl;exact hbd;intro v' junk' hj')|exact yaF|refine yaS ?_ ?_<;>intro _
    all_goals first
     |(refine Go.freezeN (l:=[(v',ys.map encV++[encV t.cols[i].dflt]++junk')]) (m:=[(0,[encV t.cols[i].dflt])]) (fr':=[(1,.c (.fz (vals.map encV))),(2,.c (.fp (ja t))),(5,.c (vec (G.next+0) v' (ys.map encV++[encV t.cols[i].dflt]) junk')),(6,.c (.int .i64 (IntKind.i64.wrap (k+1))))]) hS (λb hb e he x hx=>?_) (yaf _) (.frz rfl (.refl z0) (.frz rfl (.refl jgr) (.frz rfl (.refl (zai (yal _))) (.frz rfl (.refl zu) .nil)))) ?_
       ·rw[List.mem_singleton.1 hb]at he;rcases List.mem_append.1 he with he|he
        ·rw[show ys.map encV++[encV t.cols[i].dflt]=(ys++[t.cols[i].dflt]).map encV by simp]at he;exact(jc5 e he x hx).old _
        ·exact((hj' e he).2 x hx).old _
       ·exact hrec _ _ _ O ⟨i+1,_,v',junk',rfl,hlt,wb hk O,hj',by rw[hst,yak]<;>rfl,by rw[hst,yak]<;>rfl⟩)
     |(exfalso;simp_all;done)
  ·rw[beq_eq_false_iff_ne.2 h0,ybg,if_neg yah]at hst;repeat' first|refine yaN ?_|((first|apply yG|apply yH|apply yI);exact rfl;(first|exact yax encV hk hlt|exact yax jf hk hlc))|(apply Go.app1;exact rfl;exact rfl;exact rfl;exact rfl;exact rfl;exact lens;exact hj;exact rfl;exact hbd;intro v' junk' hj')|exact yaF|refine yaS ?_ ?_<;>intro _
   all_goals first
    |(refine Go.freezeN (l:=[(v',ys.map encV++[encV vals[i]]++junk')]) (m:=[(0,[encV vals[i]])]) (fr':=[(1,.c (.fz (vals.map encV))),(2,.c (.fp (ja t))),(5,.c (vec (G.next+0) v' (ys.map encV++[encV vals[i]]) junk')),(6,.c (.int .i64 (IntKind.i64.wrap (k+1))))]) hS (λb hb e he x hx=>?_) (yaf _) (.frz rfl (.refl z0) (.frz rfl (.refl jgr) (.frz rfl (.refl (zai (yal _))) (.frz rfl (.refl zu) .nil)))) ?_
      ·rw[List.mem_singleton.1 hb]at he;rcases List.mem_append.1 he with he|he
       ·rw[show ys.map encV++[encV vals[i]]=(ys++[vals[i]]).map encV by simp]at he;exact(jc5 e he x hx).old _
       ·exact((hj' e he).2 x hx).old _
      ·exact hrec _ _ _ O ⟨i+1,_,v',junk',rfl,hlt,wb hk O,hj',by rw[hst,yak]<;>rfl,by rw[hst,yak]<;>rfl⟩)
    |(exfalso;simp_all;done)
 ·rw[yao O]at hlen⊢;generalize jj t 0 vals=ys at hlen⊢;repeat' first|refine X ?_|exact yaF|refine yaS ?_ ?_<;>intro _
  exact .ret rfl ⟨_,rfl,wbm (k:=0) rfl (ybc _ _)⟩
def zcj(l:List RowD):Int:=match l.getLast? with|some r=>r.id+1|none=>1
theorem jep{l:List RowD}{k:Nat}(h:k<l.length)(hk:k+1=l.length):zcj l=l[k].id+1:=by
 rw[zcj,List.getLast?_eq_getElem?,show l.length-1=k by omega,yag h]
theorem wf5(d:Data)(hn:d.rows.length<=60)(hid:∀r∈d.rows,1<=r.id/\r.id<=1000000000):Pure Tryz.prog 164 [.agg (wa d)] (.c (.int .i64 (zcj d.rows))):=by
 refine yas jcf λG=>?_;by_cases h0:0<d.rows.length
 ·have hlt:d.rows.length-1<d.rows.length:=O;have h1:IntKind.i64.wrap ((d.rows.length:Int)-1)=((d.rows.length-1:Nat):Int):=by rw[zk O O];omega
  have hne:¬(d.rows.length:Int)=0:=O;have hi:=hid _ (yaa hlt);rw[jep hlt O];repeat' first|refine X ?_|((first|apply yG|apply yH|apply yI);exact rfl;(first|exact yax jc h1 hlt))|exact yaF|refine yaS ?_ ?_<;>intro _
  exact .ret rfl (.int (zk O O))
 ·have he:(d.rows.length:Int)=0:=O;have hz:d.rows=[]:=yan O;have h1:zcj d.rows=1:=by rw[hz];rfl
  rw[h1];repeat' first|refine X ?_|exact yaF|refine yaS ?_ ?_<;>intro _
  exact .ret rfl (.int rfl)
def zen(x:RowD):Bool->List RowD->List RowD
 |b,[]=>if b then[]else[x]
 |b,r::l=>(if(!b&&decide (x.id<=r.id))=true then[x]else[])++(if r.id=x.id then[]else[r])++zen x (b||decide (x.id<=r.id)) l
theorem zf6{x:RowD}:∀{l:List RowD},(∀r∈l,x.id<r.id)->zen x true l=l
 |[],_=>rfl
 |r::l,h=>by
  have h1:=h r gx;have h2:=zf6 (x:=x) (l:=l) λq hq=>h q (by simp[hq]);rw[zen,Bool.true_or,h2];simp[show¬r.id=x.id by omega]
theorem jf6{x:RowD}:∀{l:List RowD},(∀r∈l,x.id<r.id)->setRow l x=l
 |[],_=>rfl
 |r::l,h=>by
  have h1:=h r gx;have h2:=jf6 (x:=x) (l:=l) λq hq=>h q (by simp[hq]);rw[setRow]at h2⊢;rw[ybv,h2];simp[show¬r.id=x.id by omega]
theorem wfh{x:RowD}:∀{l:List RowD},Rise l->(∃r∈l,r.id=x.id)->zen x false l=setRow l x
 |[],_,h=>by obtain⟨r,hr,_⟩:=h;cases hr
 |r::l,hl,h=>by
  obtain⟨h1,h2⟩:=List.pairwise_cons.1 hl;rw[zen,setRow,ybv];by_cases he:r.id=x.id
  ·have h3:∀q∈l,x.id<q.id:=λq hq=>by have:=h1 q hq;omega
   have h4:=jf6 h3;rw[setRow]at h4;rw[h4,show(false||decide (x.id<=r.id))=true by simp[he],zf6 h3];simp[he]
  ·obtain⟨q,hq,hqi⟩:=h;rcases List.mem_cons.1 hq with rfl|hq
   ·exact absurd hqi he
   ·have h3:¬x.id<=r.id:=by have:=h1 q hq;omega
    have h4:=wfh h2 ⟨q,hq,hqi⟩;rw[setRow]at h4;rw[show(false||decide (x.id<=r.id))=false by simp[h3],h4];simp[he,h3]
set_option maxHeartbeats 1000000 in
theorem zfi(d:Data)(x:RowD)(hd:d.rows.length<=60):Pure Tryz.prog 324 [.agg (wa d),.agg (jc x)] (.agg (wa ⟨zen x false d.rows⟩)):=by
 refine yas wcn λG=>?_;repeat' first|refine X ?_|exact yaF|refine yaS ?_ ?_<;>intro _
 refine Go.keep [2,3,4,5,6,7] (Go.loops (I:=λm fr V=>∃(i:Nat) (k:Int) (v:Nat) (junk:List (List Ce)) (acc:List RowD) (b:Bool),m=d.rows.length-i/\i<=d.rows.length/\k=i/\Jk 2 junk/\(acc++zen x b (d.rows.drop i)=zen x false d.rows/\acc.length<=2*i)/\
  fr=[(2,.c (.fp (wa d))),(3,.c (.fp (jc x))),(4,.c (.ptr (G.next+0) 0 0 0)),(5,.c (vec (G.next+1) v (acc.map jc) junk)),(6,.c (.bool b)),(7,.c (.int .i64 k))]/\V=E G [(0,[[.nils]]),(v,acc.map jc++junk)]) ?_ _ _ _ ⟨0,_,0,[],[],false,rfl,yac _,rfl,Jk.nil,⟨rfl,yaf _⟩,rfl,rfl⟩)
 rintro m fr V ⟨i,k,v,junk,acc,b,rfl,hi,hk,hj,⟨hst,hal⟩,rfl,rfl⟩ hrec;have hlen:acc.length<=120:=O;have hbd:((acc.map jc).length+1)*32<=140737488355328:=by rw[yae];exact yai (yapq 32 (Nat.succ_le_succ hlen)) gb
 have hbd2:((acc.map jc++[jc x]).length+1)*32<=140737488355328:=by rw[yaqq,yae,ybf];exact yai (yapq 32 (Nat.succ_le_succ (Nat.succ_le_succ hlen))) gb
 by_cases hlt:i<d.rows.length
 ·rw[yab hlt,zen]at hst
  cases b
  ·by_cases hge:x.id<=d.rows[i].id
   ·by_cases he:d.rows[i].id=x.id
    ·have h1:¬d.rows[i].id≠x.id:=λh=>h he;repeat' first|refine X ?_|((first|apply yG|apply yH|apply yI);exact rfl;(first|exact yax jc hk hlt))|(apply Go.app1;exact rfl;exact rfl;exact rfl;exact rfl;exact rfl;exact wat;exact hj;exact rfl;exact hbd;intro v' junk' hj')|exact yaF|refine yaS ?_ ?_<;>intro _
     all_goals first
      |(exfalso;omega)
      |contradiction
      |skip
     refine Go.keep [2,3,4,5,6,7] (hrec _ _ _ O ⟨i+1,_,v',junk',acc++[x],true,rfl,hlt,wb hk O,hj',⟨?_,by simp only[List.length_append,List.length_singleton];omega⟩, ?_, ?_⟩)
     ·rw[<-hst];simp[he]
     ·simp only[List.map_append,List.map_cons,List.map_nil,List.append_assoc]<;>rfl
     ·simp only[List.map_append,List.map_cons,List.map_nil,List.append_assoc]<;>rfl
    ·have lens2:∀e∈acc.map jc++[jc x],e.length=2:=λe h=>by
      rw[show acc.map jc++[jc x]=(acc++[x]).map jc by simp]at h;exact wat e h
     repeat' first|refine X ?_|((first|apply yG|apply yH|apply yI);exact rfl;(first|exact yax jc hk hlt))|(apply Go.app1 (v:=v) (hj:=hj);exact rfl;exact rfl;exact rfl;exact rfl;exact rfl;exact wat;exact rfl;exact hbd;intro v' junk' hj')|(apply Go.app1 (v:=v') (hj:=hj');exact rfl;exact rfl;exact rfl;exact rfl;exact rfl;exact lens2;exact rfl;exact hbd2;intro v2 junk2 hj2)|exact yaF|refine yaS ?_ ?_<;>intro _
     all_goals first
      |(exfalso;omega)
      |contradiction
      |skip
     refine Go.keep [2,3,4,5,6,7] (hrec _ _ _ O ⟨i+1,_,v2,junk2,acc++[x]++[d.rows[i]],true,rfl,hlt,wb hk O,hj2,⟨?_,by simp only[List.length_append,List.length_singleton];omega⟩, ?_, ?_⟩)
     ·rw[<-hst];simp[he,hge]
     ·simp only[List.map_append,List.map_cons,List.map_nil,List.append_assoc]<;>rfl
     ·simp only[List.map_append,List.map_cons,List.map_nil,List.append_assoc]<;>rfl
   ·have he:¬d.rows[i].id=x.id:=O;repeat' first|refine X ?_|((first|apply yG|apply yH|apply yI);exact rfl;(first|exact yax jc hk hlt))|(apply Go.app1;exact rfl;exact rfl;exact rfl;exact rfl;exact rfl;exact wat;exact hj;exact rfl;exact hbd;intro v' junk' hj')|exact yaF|refine yaS ?_ ?_<;>intro _
    all_goals first
     |(exfalso;omega)
     |contradiction
     |skip
    refine Go.keep [2,3,4,5,6,7] (hrec _ _ _ O ⟨i+1,_,v',junk',acc++[d.rows[i]],false,rfl,hlt,wb hk O,hj',⟨?_,by simp only[List.length_append,List.length_singleton];omega⟩, ?_, ?_⟩)
    ·rw[<-hst];simp[he,hge]
    ·simp only[List.map_append,List.map_cons,List.map_nil,List.append_assoc]<;>rfl
    ·simp only[List.map_append,List.map_cons,List.map_nil,List.append_assoc]<;>rfl
  ·by_cases he:d.rows[i].id=x.id
   ·have h1:¬d.rows[i].id≠x.id:=λh=>h he;repeat' first|refine X ?_|((first|apply yG|apply yH|apply yI);exact rfl;(first|exact yax jc hk hlt))|(apply Go.app1;exact rfl;exact rfl;exact rfl;exact rfl;exact rfl;exact wat;exact hj;exact rfl;exact hbd;intro v' junk' hj')|exact yaF|refine yaS ?_ ?_<;>intro _
    all_goals first
     |(exfalso;omega)
     |contradiction
     |skip
    refine Go.keep [2,3,4,5,6,7] (hrec _ _ _ O ⟨i+1,_,v,junk,acc,true,rfl,hlt,wb hk O,hj,⟨?_,O⟩, ?_, ?_⟩)
    ·rw[<-hst];simp[he]
    ·rfl
    ·rfl
   ·repeat' first|refine X ?_|((first|apply yG|apply yH|apply yI);exact rfl;(first|exact yax jc hk hlt))|(apply Go.app1;exact rfl;exact rfl;exact rfl;exact rfl;exact rfl;exact wat;exact hj;exact rfl;exact hbd;intro v' junk' hj')|exact yaF|refine yaS ?_ ?_<;>intro _
    all_goals first
     |(exfalso;omega)
     |contradiction
     |skip
    refine Go.keep [2,3,4,5,6,7] (hrec _ _ _ O ⟨i+1,_,v',junk',acc++[d.rows[i]],true,rfl,hlt,wb hk O,hj',⟨?_,by simp only[List.length_append,List.length_singleton];omega⟩, ?_, ?_⟩)
    ·rw[<-hst];simp[he]
    ·simp only[List.map_append,List.map_cons,List.map_nil,List.append_assoc]<;>rfl
    ·simp only[List.map_append,List.map_cons,List.map_nil,List.append_assoc]<;>rfl
 ·rw[yad O,zen]at hst
  cases b
  ·rw[if_neg yah]at hst;rw[<-hst];repeat' first|refine X ?_|(apply Go.app1;exact rfl;exact rfl;exact rfl;exact rfl;exact rfl;exact wat;exact hj;exact rfl;exact hbd;intro v' junk' hj')|exact yaF|refine yaS ?_ ?_<;>intro _
   refine .ret (zay rfl rfl rfl (yac _) rfl) ⟨_,rfl,.agg rfl λj hj0=>?_⟩;have hj1:j=0:=by simp at hj0;omega
   subst hj1;have e1:acc.map jc++[jc x]=(acc++[x]).map jc:=gx
   have hz:FrzV (E G [(0,[[vec (G.next+1) v' (acc.map jc++[jc x]) junk']]),(v',acc.map jc++[jc x]++junk')]) G.next (.c (vec (G.next+1) v' (acc.map jc++[jc x]) junk')) (.c (.fz (acc.map jc++[jc x]))):=
    wav (k:=1) rfl (by rw[e1];exact jd3 _) (ybc _ _)
   cases hz with
   |c h=>
    have h2:Frz (E G [(0,[[vec (G.next+1) v' (acc.map jc++[jc x]) junk']]),(v',acc.map jc++[jc x]++junk')]) G.next (vec (G.next+1) v' (acc.map jc++[jc x]) junk') (.fz ((acc++[x]).map jc)):=by
     rw[<-e1];exact h
    exact h2
  ·rw[if_pos rfl,ybe]at hst;rw[<-hst];repeat' first|refine X ?_|exact yaF|refine yaS ?_ ?_<;>intro _
   refine .ret (zay rfl rfl rfl (yac _) rfl) ⟨_,rfl,.agg rfl λj hj0=>?_⟩;have hj1:j=0:=by simp at hj0;omega
   subst hj1
   have hz:FrzV (E G [(0,[[vec (G.next+1) v (acc.map jc) junk]]),(v,acc.map jc++junk)]) G.next (.c (vec (G.next+1) v (acc.map jc) junk)) (.c (.fz (acc.map jc))):=
    wav (k:=1) rfl (jd3 _) (ybc _ _)
   cases hz with
   |c h=>exact h
theorem jjo(rows:List RowD)(cols:List Int)(key:List Val)(hr:rows.length<=1048576)(hx:cols.length<=34359738368)(hi:∀r∈rows,InR cols r.vals.length)(G:jb):Ok Tryz.prog 352 [.c (.fz (rows.map jc)),.c (.fz (cols.map encI)),.c (.fz (key.map encV))] G (NewV G (.c (.fz ((w8 rows cols key).map encI)))):=by
 refine Ok.run mixed wco gz λhS hA=>?_;clear hS hA;repeat' first|refine X ?_|exact yaF|refine yaS ?_ ?_<;>intro _
 refine Go.keep [1,2,7,11,12,13] (Go.loops (I:=λm fr V=>∃(i:Nat) (k:Int) (v:Nat) (junk:List (List Ce)) (ids:List Int),m=rows.length-i/\i<=rows.length/\k=i/\Jk 1 junk/\ids=w8 (rows.take i) cols key/\
  fr=[(1,.c (.fz (cols.map encI))),(2,.c (.fz (key.map encV))),(7,.c (vec (G.next+0) v (ids.map encI) junk)),(11,.c (.fz (rows.map jc))),(12,.c (.int .i64 (rows.length:Int))),(13,.c (.int .i64 k))]/\V=E G [(v,ids.map encI++junk)]) ?_ _ _ _ ⟨0,_,0,[],[],rfl,yac _,rfl,Jk.nil,rfl,rfl,rfl⟩)
 rintro m fr V ⟨i,k,v,junk,ids,rfl,hile,hk,hj,hids,rfl,rfl⟩ hrec;by_cases hlt:i<rows.length
 ·have c1:=wil cols rows[i].vals key hx (hi _ (yaa hlt));have hn:=jdg (cols:=cols) (key:=key) hlt;rw[<-hids]at hn;have hl:(ids.map encI).length<=1048576:=by rw[yae,hids];have:=wcz (rows:=rows.take i) (cols:=cols) (key:=key);rw[yat]at this;omega
  have hbd:((ids.map encI).length+1)*8<=140737488355328:=O;have hz1:∀e∈ids.map encI,e.length=1:=λe he=>(wak e he).1;have e1:ids.map encI++[encI rows[i].id]=(ids++[rows[i].id]).map encI:=gx;clear hi
  cases hb:hasB cols key rows[i].vals
  ·rw[hb]at c1 hn;rw[if_neg yah,ybe]at hn;repeat' first|refine X ?_|((first|apply yG|apply yH|apply yI);exact rfl;(first|exact yax jc hk hlt))|refine yaC (c1) ?_|exact yaF|refine yaS ?_ ?_<;>intro _
   exact Go.keep [1,2,7,11,12,13] (hrec _ _ _ O ⟨i+1,_,v,junk,ids,rfl,hlt,wb hk O,hj,hn.symm,rfl,rfl⟩)
  ·rw[hb]at c1 hn;rw[if_pos rfl]at hn;repeat' first|refine X ?_|((first|apply yG|apply yH|apply yI);exact rfl;(first|exact yax jc hk hlt))|(apply Go.app1;exact rfl;exact rfl;exact rfl;exact rfl;exact rfl;exact hz1;exact hj;exact rfl;exact hbd;intro v' junk' hj')|refine yaC (c1) ?_|exact yaF|refine yaS ?_ ?_<;>intro _
   refine Go.keep [1,2,7,11,12,13] (hrec _ _ _ O ⟨i+1,_,v',junk',ids++[rows[i].id],rfl,hlt,wb hk O,hj',hn.symm, ?_, ?_⟩)
   ·rw[<-e1];rfl
   ·rw[<-e1];rfl
 ·repeat' first|refine X ?_|exact yaF|refine yaS ?_ ?_<;>intro _
  refine .ret rfl ?_;rw[yao O]at hids;rw[<-hids];exact wcg wak hj
theorem ji0(t:wc)(rows:List RowD)(id:Int)(vals:List Val)(hr:rows.length<=1048576)(hu:t.uniques.length<=3)(hx:∀k∈jn t,k.length<=34359738368)(hv:∀k∈jn t,InR k vals.length)(hi:∀k∈jn t,∀r∈rows,InR k r.vals.length):
 ∀G,Ok Tryz.prog 222 [.agg (ja t),.c (.fz (rows.map jc)),.c (.int .i64 id),.c (.fz (vals.map encV))] G (NewV G (.c (.fz ((j4 rows (jn t) id vals).map encI)))):=by
 refineλG=>Ok.run mixed zeg gz λhS hA=>?_;clear hA;repeat' first|refine X ?_|exact yaF|refine yaS ?_ ?_<;>intro _
 refine Go.keep [1,2,7,9,10,20,21,22] (Go.loops (I:=λm fr V=>∃(i:Nat) (k:Int) (v:Nat) (junk:List (List Ce)),m=t.uniques.length-i/\i<=t.uniques.length/\k=i/\Jk 1 junk/\
  fr=[(1,.c (.fz (rows.map jc))),(2,.c (.int .i64 id)),(7,.c (.fp [.fz (vals.map encV)])),(9,.c (vec (G.next+0) 0 [] [])),(10,.c (vec (G.next+1) v ((t.key::(t.uniques.take i).map (·.cols)).map zc6) junk)),(20,.c (.fz (t.uniques.map zaz))),(21,.c (.int .i64 (t.uniques.length:Int))),(22,.c (.int .i64 k))]/\
  V=E G [(0,[]),(v,(t.key::(t.uniques.take i).map (·.cols)).map zc6++junk)]) ?_ _ _ _ ⟨0,_,0,[],rfl,yac _,rfl,Jk.nil,rfl,rfl⟩)
 rintro m fr V ⟨i,k,v,junk,rfl,hile,hk,hj,rfl,rfl⟩ hrec;by_cases hlt:i<t.uniques.length
 ·have hn1:∀e∈(t.key::(t.uniques.take i).map (·.cols)).map zc6,e.length=1:=λe he=>by
   obtain⟨a,_,rfl⟩:=List.mem_map.1 he
   rfl
  have hbd:(((t.key::(t.uniques.take i).map (·.cols)).map zc6).length+1)*24<=140737488355328:=by simp;omega
  have e1:(t.key::(t.uniques.take (i+1)).map (·.cols)).map zc6=(t.key::(t.uniques.take i).map (·.cols)).map zc6++[zc6 t.uniques[i].cols]:=by
   rw[yaj hlt,yak,<-List.cons_append,yak];rfl
  repeat' first|refine X ?_|((first|apply yG|apply yH|apply yI);exact rfl;(first|exact yax zaz hk hlt))|(apply Go.app1 (k:=1);exact rfl;exact rfl;exact rfl;exact rfl;exact rfl;exact hn1;exact hj;exact rfl;exact hbd;intro v' junk' hj')|exact yaF|refine yaS ?_ ?_<;>intro _
  refine Go.keep [1,2,7,9,10,20,21,22] (hrec _ _ _ O ⟨i+1,_,v',junk',rfl,hlt,wb hk O,hj', ?_, ?_⟩)
  ·rw[e1];rfl
  ·rw[e1];rfl
 ·rw[yao O];rw[<-jn];clear hrec;repeat' first|refine X ?_|exact yaF|refine yaS ?_ ?_<;>intro _
  refine Go.keep [2,7,9,10,32,33,34] (Go.loops (I:=λm fr V=>∃(i:Nat) (k:Int) (w:Nat) (junkw:List (List Ce)) (ids:List Int),m=rows.length-i/\i<=rows.length/\k=i/\Jk 1 junkw/\ids=j4 (rows.take i) (jn t) id vals/\
   fr=[(2,.c (.int .i64 id)),(7,.c (.fp [.fz (vals.map encV)])),(9,.c (vec (G.next+0) w (ids.map encI) junkw)),(10,.c (vec (G.next+1) v ((jn t).map zc6) junk)),(32,.c (.fz (rows.map jc))),(33,.c (.int .i64 (rows.length:Int))),(34,.c (.int .i64 k))]/\
   V=E G [(w,ids.map encI++junkw),(v,(jn t).map zc6++junk)]) ?_ _ _ _ ⟨0,_,0,[],[],rfl,yac _,rfl,Jk.nil,rfl,rfl,rfl⟩)
  rintro m fr V ⟨i,k,w,junkw,ids,rfl,hile,hk,hjw,hids,rfl,rfl⟩ hrec;by_cases hlt:i<rows.length
  ·have cc:=wi mixed jar way zc6 (λu=>.c (.fz (u.map encI))) (λ_=>rfl) (λ_=>rfl) (jn t) (jfe vals rows[i]) 296 [] [.fp [.fz (vals.map encV)],.fp (jc rows[i])] (by simp[jn];omega) (λj hj _=>wiy _ vals rows[i] (hx _ (List.getElem_mem hj)) (hv _ (List.getElem_mem hj)) (hi _ (List.getElem_mem hj) _ (List.getElem_mem hlt)));have hn:=jea (keys:=jn t) (id:=id) (vals:=vals) hlt;rw[<-hids]at hn;have hl:(ids.map encI).length<=1048576:=by rw[yae,hids];have:=zcc (rows:=rows.take i) (keys:=jn t) (id:=id) (vals:=vals);rw[yat]at this;omega
   have hbd:((ids.map encI).length+1)*8<=140737488355328:=O;have hz1:∀e∈ids.map encI,e.length=1:=λe he=>(wak e he).1;have e1:ids.map encI++[encI rows[i].id]=(ids++[rows[i].id]).map encI:=gx;have hfz:FrzV (E G [(w,ids.map encI++junkw),(v,(jn t).map zc6++junk)]) 0 (.c (vec (G.next+1) v ((jn t).map zc6) junk)) (.c (.fz ((jn t).map zc6))):=wav (k:=1) rfl (λe he x hx=>by obtain⟨a,_,rfl⟩:=List.mem_map.1 he;exact wjk 0 a x hx) (yac _);generalize (jn t).any (jfe vals rows[i])=b at cc hn;clear hi hv hx;by_cases h0:rows[i].id=id
   ·rw[beq_iff_eq.2 h0,Bool.not_true,ybg,if_neg yah,ybe]at hn;repeat' first|refine X ?_|((first|apply yG|apply yH|apply yI);exact rfl;(first|exact yax jc hk hlt))|exact yaF|refine yaS ?_ ?_<;>intro _
    all_goals first
     |exact Go.keep [2,7,9,10,32,33,34] (hrec _ _ _ O ⟨i+1,_,w,junkw,ids,rfl,hlt,wb hk O,hjw,hn.symm,rfl,rfl⟩)
     |(exfalso;simp_all;done)
   ·rw[beq_eq_false_iff_ne.2 h0,Bool.not_false,yav]at hn
    cases b
    ·rw[if_neg yah,ybe]at hn;repeat' first|refine X ?_|((first|apply yG|apply yH|apply yI);exact rfl;(first|exact yax jc hk hlt))|exact yaF|refine yaS ?_ ?_<;>intro _
     refine Go.lcall rfl rfl rfl cc (.bool _) (.own hfz (.same .nil)) ?_;repeat' first|refine X ?_|exact yaF|refine yaS ?_ ?_<;>intro _
     exact Go.keep [2,7,9,10,32,33,34] (hrec _ _ _ O ⟨i+1,_,w,junkw,ids,rfl,hlt,wb hk O,hjw,hn.symm,rfl,rfl⟩)
    ·rw[if_pos rfl]at hn;repeat' first|refine X ?_|((first|apply yG|apply yH|apply yI);exact rfl;(first|exact yax jc hk hlt))|exact yaF|refine yaS ?_ ?_<;>intro _
     refine Go.lcall rfl rfl rfl cc (.bool _) (.own hfz (.same .nil)) ?_;repeat' first|refine X ?_|(apply Go.app1 (k:=0);exact rfl;exact rfl;exact rfl;exact rfl;exact rfl;exact hz1;exact hjw;exact rfl;exact hbd;intro v' junk' hj')|exact yaF|refine yaS ?_ ?_<;>intro _
     refine Go.keep [2,7,9,10,32,33,34] (hrec _ _ _ O ⟨i+1,_,v',junk',ids++[rows[i].id],rfl,hlt,wb hk O,hj',hn.symm, ?_, ?_⟩)
     ·rw[<-e1];rfl
     ·rw[<-e1];rfl
  ·repeat' first|refine X ?_|exact yaF|refine yaS ?_ ?_<;>intro _
   rw[yao O]at hids;rw[<-hids];refine Go.freezeN (l:=[(w,ids.map encI++junkw)]) (m:=[(v,(jn t).map zc6++junk)]) (fr':=[(8,.c (vec (G.next+0) w (ids.map encI) junkw))]) hS (λb hb e he x hx=>?_) (yaf _) (.frz rfl (.refl (zai (yal _))) .nil) ?_
   ·rw[List.mem_singleton.1 hb]at he;rcases List.mem_append.1 he with he|he
    ·exact((wak e he).2 x hx).old _
    ·exact((hjw e he).2 x hx).old _
   ·exact .ret rfl (wcg wak hjw)
variable {P:Program}{G:jb}{args args':List AV}
theorem Lend.fresh{y:AV}(h:Lend G args args')(hp:∀G,Ok P n args' G (NewV G y)):Ok P n args G (λr G'=>r=y/\G'=G):=by
 have h1:=h.new hp;refine .old' h1 λhS ha=>Ok.pure h1 y (λid y hy=>(hS id y hy).1) ?_;rintro r G1 ⟨hg,hh⟩;exact⟨λid y hy=>by rw[hg.lt (hS id y hy).1];exact hy,hh.frz λa ha=>ha.1⟩
theorem Ok.run0(hm:P.follows .mixedOrders=true){fz:List Nat}{f:Nat}{af:AFn}(h:ze P fz f=some af){args:List AV}{G:jb}{R:AV->jb->Prop}(hn:args.length<=af.nt)
 (hg:OldS G->(∀x∈args,∀y∈x.all,Old G.next y)->Go P G.next af.nt af.rets R [.code af.body] (frOf 0 args) G):Ok P f args G R:=
 .old h λhS ha=>.of_go hm h hn (hg hS ha)
theorem Lend.made{s:Nat}(h:Lend G args args')(hp:∀G,Ok P n args' G (Made G s ys))(hy:∀e∈ys,∀x∈e,Flat x):Ok P n args G (Made G s ys):=by
 obtain⟨hl,hz⟩:=h.spec;refine(Ok.lent (hp (jb.none G.next)) hl hz ?_).mono ?_
 ·rintro r V ⟨v,junk,hj,rfl,rfl⟩;refine⟨[(v,ys++junk)],rfl,λb hb e he x hx=>?_,λy hy=>?_⟩
  ·rw[List.mem_singleton.1 hb]at he;rcases List.mem_append.1 he with he|he
   ·exact .flat (hy e he x hx)
   ·exact .flat ((hj e he).2 x hx)
  ·rw[List.mem_singleton.1 hy];exact .sl _ _ _ _ _ (ybc _ _)
 ·rintro r G' ⟨l,rfl,v,junk,hj,hr,e⟩;obtain rfl:=wky e;exact⟨v,junk,hj,hr,rfl⟩
section
variable {L:ChL}{n:Nat}{s:List wc}{xs:List Ce}{db:List Data}{V:jb}{fr:Fr}
theorem wbo(h:wt L n s xs db V){a:Opd}(ha:a.ev fr=some (.c (.ptr L.c L.vc 0 0))):aop (.load false 1 a) fr V=some (.c (.fz (s.map ja)),V):=
 j5 ha h.c rfl (Nat.zero_lt_succ _)
theorem zch(h:wt L n s xs db V){a:Opd}(ha:a.ev fr=some (.c (.ptr L.c L.vc 0 1))):aop (.load false 1 a) fr V=some (.c (.sl L.d L.vd 0 db.length (db.length+L.junk.length)),V):=
 j5 ha h.c rfl (yal _)
theorem wdr(h:wt L n s xs db V){x y:Opd}{kd:IntKind}{z:Int}{k:Nat}(hx:x.ev fr=some (.c (.sl L.d L.vd 0 db.length (db.length+L.junk.length))))(hy:y.ev fr=some (.c (.int kd z)))(hz:z=(k:Int))(hk:k<db.length):aop (.iaddr 1 x y) fr V=some (.c (.ptr L.d L.vd (0+k) 0),V):=
 wq hx hy hz hk h.d (zau (by rw[h.len];exact hk)) rfl
theorem zds(h:wt L n s xs db V){a:Opd}{k:Nat}(ha:a.ev fr=some (.c (.ptr L.d L.vd (0+k) 0)))(hk:k<xs.length):aop (.load false 1 a) fr V=some (.c xs[k],V):=
 j5 ha h.d (zau hk) (yal _)
end
theorem wkf(r:RowD)(id:Int):Pure Tryz.prog 189 [.agg (jc r),.c (.fp [.int .i64 id])] (.c (.bool (r.id==id))):=by
 refine yaq [2] wcm λG=>?_;repeat' first|refine X ?_|exact yaF|refine yaS ?_ ?_<;>intro _
 exact .ret rfl (.bool rfl)
theorem jfi(i:Int)(x:Ce)(id:Int):Pure Tryz.prog 344 [.agg [.int .i64 i,x],.c (.fp [.int .i64 id])] (.c (.bool (i==id))):=by
 refine yaq [2] wb1 λG=>?_;repeat' first|refine X ?_|exact yaF|refine yaS ?_ ?_<;>intro _
 exact .ret rfl (.bool rfl)
theorem zcu(h:wt L n s xs db V){k:Nat}(hk:k<db.length)(hk2:k<xs.length)(id:Int)(hl:db[k].rows.length<=60):
 (jai db[k].rows id=none->Ok Tryz.prog 84 [.c (.ptr L.c L.vc 0 0),.c (.int .i64 (k:Int)),.c (.int .i64 id)] V (λr V'=>r=.c .nilp/\V'=V))/\
 (∀j,∀hj:j<db[k].rows.length,idxA (λr:RowD=>r.id==id) db[k].rows 0=(j:Int)->∀lab ps i v junk,At L n k lab V db[k].rows xs[k] ps i v junk->Ok Tryz.prog 84 [.c (.ptr L.c L.vc 0 0),.c (.int .i64 (k:Int)),.c (.int .i64 id)] V (λr V'=>r=.c (.ptr i v (0+j) 0)/\V'=V)):=by
 have hz:=h.frzR hk hk2;have ci:=wbf mixed wab jc (λr=>.agg (jc r)) (λ_=>rfl) (λ_=>rfl) db[k].rows (λr:RowD=>r.id==id) 189 [] [.fp [.int .i64 id]] (yai hl gb) (λj hj _=>wkf _ id);refine⟨λhno=>?_,λj hj hix lab ps i v junk hat=>?_⟩
 ·refine Ok.run0 mixed wa3 gz λhS hA=>?_;clear hS hA;have hix:idxA (λr:RowD=>r.id==id) db[k].rows 0=-1:=by
   rcases zj db[k].rows id with⟨h1,_⟩|⟨j,hj,_,h2⟩
   ·exact h1
   ·rw[hno]at h2
    cases h2
  rw[hix]at ci;repeat' first|refine X ?_|((first|apply yG|apply yH|apply yI);exact rfl;(first|exact zch h rfl|exact wdr h rfl rfl rfl hk|exact zds h rfl hk2))|exact yaF|refine yaS ?_ ?_<;>intro _
  refine Go.lcall rfl rfl rfl ci (.int _ _) (.own hz (.same .nil)) ?_;repeat' first|refine X ?_|exact yaF|refine yaS ?_ ?_<;>intro _
  exact .ret rfl ⟨rfl,rfl⟩
 ·refine Ok.run0 mixed wa3 gz λhS hA=>?_;clear hS hA;rw[hix]at ci;repeat' first|refine X ?_|((first|apply yG|apply yH|apply yI);exact rfl;(first|exact zch h rfl|exact wdr h rfl rfl rfl hk|exact zds h rfl hk2))|exact yaF|refine yaS ?_ ?_<;>intro _
  refine Go.lcall rfl rfl rfl ci (.int _ _) (.own hz (.same .nil)) ?_;rw[hat.x];repeat' first|refine X ?_|((first|apply yG|apply yH|apply yI);exact rfl;(first|exact wq rfl rfl rfl (by rw[yae,hat.len];exact hj) hat.get (hat.at hj) rfl))|exact yaF|refine yaS ?_ ?_<;>intro _
  exact .ret rfl ⟨rfl,rfl⟩
variable {es:List (List Ce)}{e:List Ce}
theorem wbj{fr:Fr}{s i:Nat}{a:Opd}(ha:a.ev fr=some (.c (.ptr id v i 0)))(hl:G.get id=some (v,es))(he:es[i]?=some e)(hs:e.length=s):aop (.load true s a) fr G=some (.agg e,G):=by
 simp[aop,ha,jb.at_,hl,he,zi9 hs]
theorem wh9{fr:Fr}{s i:Nat}{a y:Opd}{cs:List Ce}(ha:a.ev fr=some (.c (.ptr id v i 0)))(hy:y.ev fr=some (.agg cs))(hl:G.get id=some (v,es))(he:es[i]?=some e)(hs:e.length=s)(hc:cs.length=s):aop (.store s a y) fr G=some (.un,G.put id (v,es.set i cs)):=by
 simp[aop,ha,hy,AV.cells,hl,he,hc,hs,zis hs hc]
variable {x:Nat×List (List Ce)}
theorem wjo:(G.put id x).put id y=G.put id y:=by
 refine jb.ext rfl λj=>?_;simp only[jb.put];split<;>rfl
theorem wgr(h:G.get id=some x):G.put id x=G:=by
 refine jb.ext rfl λj=>?_;simp only[jb.put];split
 ·rename_i e;rw[e,h]
 ·rfl
theorem ja1:(G.put id x).get id=some x:=if_pos rfl
theorem wep{ps:List PRow}:∀e∈ps.map encP,e.length=2:=λe he=>by
 obtain⟨p,_,rfl⟩:=List.mem_map.1 he
 rfl
set_option maxHeartbeats 1000000 in
theorem wi0(ps:List PRow)(junk:List (List Ce))(id:Int)(hx:ps.length<=60)(a v:Nat)(V:jb)(hg:V.get a=some (v,ps.map encP++junk))(hj:Jk 2 junk)(hz:FrzV V 0 (.c (vec a v (ps.map encP) junk)) (.c (.fz ((ps.map (·.1)).map jc))))
 (j0:Nat) (hj0:j0<ps.length) (hix:idxA (λr:RowD=>r.id==id) (ps.map (·.1)) 0=(j0:Int)) (hp0:(ps[j0].1.id==id)=true) (hpre:∀r∈ps.take j0,(r.1.id==id)=false):
 Ok Tryz.prog 343 [.c (vec a v (ps.map encP) junk),.c (.fn 344 [] [.fp [.int .i64 id]])] V (λr V'=>∃junk',Jk 2 junk'/\r=.c (vec a v ((ps.filter λr=> !(r.1.id==id)).map encP) junk')/\V'=V.put a (v,(ps.filter λr=> !(r.1.id==id)).map encP++junk')):=by
 refine Ok.run0 mixed zbr gz λhS hA=>?_;clear hA;have ci:=wbf mixed wab jc (λr=>.agg (jc r)) (λ_=>rfl) (λ_=>rfl) (ps.map (·.1)) (λr:RowD=>r.id==id) 344 [] [.fp [.int .i64 id]] (by rw[yae];exact yai hx gb) (λj hj _=>jfi _ _ id);rw[hix]at ci;have hne:¬(j0:Int)=-1:=O;repeat' first|refine X ?_|exact yaF|refine yaS ?_ ?_<;>intro _
 refine Go.lcall rfl rfl rfl ci (.int _ _) (.own hz (.same .nil)) ?_;repeat' first|refine X ?_|exact yaF|refine yaS ?_ ?_<;>intro _
 have hsz:∀e∈ps.map encP++junk,e.length=2:=λe he=>by
  rcases List.mem_append.1 he with he|he
  ·exact wep e he
  ·exact(hj e he).1
 have hf0:(ps.take (j0+1)).filter (λr=> !(r.1.id==id))=ps.take j0:=by
  rw[yaj hj0,List.filter_append,List.filter_cons,hp0,List.filter_eq_self.2 λr hr=>by rw[hpre r hr];rfl];simp
 refine Go.keep [0,1,5,6] (Go.loops (I:=λm fr V'=>∃(j i:Nat) (kj ki:Int) (es:List (List Ce)),m=ps.length-j/\j<=ps.length/\kj=j/\ki=i/\(i<j/\i=((ps.take j).filter λr=> !(r.1.id==id)).length/\es.length=ps.length+junk.length/\(∀e∈es,e.length=2)/\es.take i=((ps.take j).filter λr=> !(r.1.id==id)).map encP/\es.drop j=(ps.drop j).map encP++junk)/\
  fr=[(0,.c (vec a v (ps.map encP) junk)),(1,.c (.fn 344 [] [.fp [.int .i64 id]])),(5,.c (.int .i64 ki)),(6,.c (.int .i64 kj))]/\V'=V.put a (v,es)) ?_ _ _ _ ⟨j0+1,j0,_,_,ps.map encP++junk,rfl,hj0,wb rfl O,rfl,⟨yal _,by rw[hf0,yat];omega,gx,hsz,by rw[hf0,List.take_append_of_le_length gq,List.map_take],by rw[List.drop_append_of_le_length gq,List.map_drop]⟩,rfl,(wgr hg).symm⟩)
 rintro m fr V' ⟨j,i,kj,ki,es,rfl,hjl,hkj,hki,⟨hij,hil,hel,hes,htk,hdr⟩,rfl,rfl⟩ hrec;have hn0:V.next<=(V.put a (v,es)).next:=yaf _;by_cases hlt:j<ps.length
 ·have hltm:j<(ps.map encP).length:=by rw[yae];exact hlt
  have hej:es[0+j]?=some (encP ps[j]):=by
   have h1:es[0+j]?=(es.drop j)[0]?:=by rw[List.getElem?_drop];simp
   rw[h1,hdr,yab hlt]
   rfl
  have hdr2:es.drop (j+1)=(ps.drop (j+1)).map encP++junk:=by
   rw[<-List.tail_drop,hdr,yab hlt]
   rfl
  have hft:(ps.take (j+1)).filter (λr=> !(r.1.id==id))=(ps.take j).filter (λr=> !(r.1.id==id))++if(ps[j].1.id==id)=true then[]else[ps[j]]:=by
   rw[yaj hlt,List.filter_append,List.filter_cons]
   cases ps[j].1.id==id<;>rfl
  have c1:=jfi ps[j].1.id ps[j].2 id
  cases hb:ps[j].1.id==id
  ·rw[hb]at c1;rw[hb,if_neg yah]at hft;have hlti:i<(ps.map encP).length:=by rw[yae];omega
   have hil2:i<es.length:=O;have hei:es[0+i]?=some es[i]:=by rw[ybk,yag hil2]
   repeat' first|refine X ?_|((first|apply yG|apply yH|apply yI);exact rfl;(first|exact wq rfl rfl hkj hltm ja1 hej rfl|exact wq rfl rfl hki hlti ja1 hei (hes _ (yaa hil2))|exact wbj rfl ja1 hej rfl|exact wh9 rfl rfl ja1 hei (hes _ (yaa hil2)) rfl))|refine yaC (c1) ?_|exact yaF|refine yaS ?_ ?_<;>intro _
   rw[wjo];refine Go.keep [0,1,5,6] (hrec _ _ _ O ⟨j+1,i+1,_,_,es.set (0+i) (encP ps[j]),rfl,hlt,wb hkj O,wb hki O,⟨O,by rw[hft,yaqq,<-hil];rfl,by rw[yasq];exact hel,λe he=>?_, ?_, ?_⟩,rfl,rfl⟩)
   ·rcases ybm he with he|rfl
    ·exact hes e he
    ·rfl
   ·rw[hft,yak,<-htk,ybk,yaj (by rw[yasq];exact hil2),List.take_set_of_le (yaf _),List.getElem_set_self]
    rfl
   ·rw[ybk,List.drop_set_of_lt O,hdr2]
  ·rw[hb]at c1;rw[hb,if_pos rfl,ybe]at hft;repeat' first|refine X ?_|((first|apply yG|apply yH|apply yI);exact rfl;(first|exact wq rfl rfl hkj hltm ja1 hej rfl|exact wbj rfl ja1 hej rfl))|refine yaC (c1) ?_|exact yaF|refine yaS ?_ ?_<;>intro _
   exact Go.keep [0,1,5,6] (hrec _ _ _ O ⟨j+1,i,_,_,es,rfl,hlt,wb hkj O,hki,⟨O,by rw[hft];exact hil,hel,hes,by rw[hft];exact htk,hdr2⟩,rfl,rfl⟩)
 ·have hje:j=ps.length:=O;subst hje;rw[yao (yaf _)]at htk hil;rw[List.drop_length,List.map_nil,ybl]at hdr;clear hrec;have hilm:i<=(ps.map encP).length:=by rw[yae];omega
  have e0:(ps.map encP).length=ps.length:=yae _;have hsp:∀N,N=(ps.map encP).length-i->jh es (0+i) (List.replicate N [.int .i64 0,.nils])=(ps.filter λr=> !(r.1.id==id)).map encP++(List.replicate N [.int .i64 0,.nils]++junk):=by
   rintro N rfl;rw[jh,ybk,htk,ybi,show i+((ps.map encP).length-i)=ps.length by omega,hdr,ybn]
  repeat' first|refine X ?_|((first|apply yG|apply yH|apply yI);exact rfl;(first|exact zck (l:=i) (h:=(ps.map encP).length) (m:=(ps.map encP).length+junk.length) rfl rfl rfl rfl (zex hki) rfl rfl ja1 hes hilm (ybc _ _) (yaf _)|exact wi9 rfl ja1 rfl hes O))|exact yaF|refine yaS ?_ ?_<;>intro _
  rw[wjo,hsp _ rfl];have hfl:(ps.filter λr=> !(r.1.id==id)).length=i:=hil.symm;generalize hpf:(ps.filter λr=> !(r.1.id==id))=pf at hfl;have hj2:Jk 2 (List.replicate ((ps.map encP).length-i) [Ce.int .i64 0,.nils]++junk):=λe he=>by
   rcases List.mem_append.1 he with he|he
   ·rw[ybo he];refine⟨rfl,λx hx=>?_⟩;simp only[List.mem_cons,List.not_mem_nil,or_false]at hx;rcases hx with rfl|rfl
    ·exact .int _ _
    ·exact .nils
   ·exact hj e he
  have hes2:∀e∈pf.map encP++(List.replicate ((ps.map encP).length-i) [Ce.int .i64 0,.nils]++junk),e.length=2:=λe he=>by
   rcases List.mem_append.1 he with he|he
   ·exact wep e he
   ·exact(hj2 e he).1
  repeat' first|refine X ?_|((first|apply yG|apply yH|apply yI);exact rfl;(first|exact zck (l:=0) (h:=i) (m:=(ps.map encP).length+junk.length) rfl rfl rfl rfl rfl (zex hki) rfl ja1 hes2 (yac _) O (yaf _)))|exact yaF|refine yaS ?_ ?_<;>intro _
  refine .ret rfl ⟨_,hj2, ?_,rfl⟩;have e1:(pf.map encP).length=i:=by rw[yae];exact hfl
  rw[vec,e1,yaqq,ybi];simp only[Nat.sub_zero,Nat.zero_add];rw[show(ps.map encP).length+junk.length=i+((ps.map encP).length-i+junk.length) by omega]
end Go.Proofs.YtedaadaaibofaaaGreat.Am
namespace Go.Proofs.YtedaadaaibofaaaGreat.Am
variable {I:Nat->Int->Prop}

def resV(r:Res):AV:=.tup [.c (if r.2=0 then .fz (r.1.map wa)else .nils),.c (.int .i64 r.2)]
theorem zaf{r:Res}(h:r.2=0):resV r=.tup [.c (.fz (r.1.map wa)),.c (.int .i64 0)]:=by rw[resV,if_pos h,h]
theorem jab{r:Res}{e:Int}(h:r.2=e)(h0:e≠0):resV r=.tup [.c .nils,.c (.int .i64 e)]:=by rw[resV,h,if_neg h0]
theorem wfi{db:List Data}:resV (db,0)=.tup [.c (.fz (db.map wa)),.c (.int .i64 0)]:=rfl
theorem wai{e:Int}(h0:e≠0):resV ([],e)=.tup [.c .nils,.c (.int .i64 e)]:=jab rfl h0
theorem jg(r:Res)(n:Nat):∀y∈(resV r).all,Old n y:=λy hy=>by
 simp only[resV,AV.all,AV.all.allL,List.append_nil,List.mem_append,List.mem_singleton]at hy;rcases hy with rfl|rfl
 ·split
  ·exact jl (wag _)
  ·exact .nils
 ·exact .int _ _
variable {n:Nat}
theorem zas{l:List wc}:∀y∈(AV.c (.fz (l.map ja))).all,Old n y:=λy hy=>by
 rw[List.mem_singleton.1 hy];exact jl (jf5 _)
theorem wbc{l:List Data}:∀y∈(AV.c (.fz (l.map wa))).all,Old n y:=λy hy=>by
 rw[List.mem_singleton.1 hy];exact jl (wag _)
variable {s:List wc}
theorem zlh(hs:SchG s){db:List Data}(h:DbG I s db){n:Nat}(hn:n<s.length)(hn2:n<db.length){x:RowD}(hx:x.vals.length=s[n].cols.length):jiz s[n] db[n] x:=by
 have ht:=hs.tab _ (yaa hn);have hb:=hs.big _ (yaa hn);have hkey:∀k∈jn s[n],k.length<=34359738368/\InR k s[n].cols.length:=λk hk=>by
  rw[jn]at hk;rcases List.mem_cons.1 hk with rfl|hk
  ·exact⟨hb.2.2.1,ht.key⟩
  ·obtain⟨u,hu,rfl⟩:=List.mem_map.1 hk;exact⟨hb.2.2.2.1.2 u hu,ht.uniq u hu⟩
 exact⟨ht.uniq3,λk hk=>(hkey k hk).1,λk hk=>by rw[hx];exact(hkey k hk).2,λk hk r hr=>by rw[((h.rows n hn hn2).fit r hr).1];exact(hkey k hk).2⟩
theorem fkR(hs:SchG s){db:List Data}(h:DbG I s db){n:Nat}(hn:n<s.length){vals:List Val}(hl:vals.length=s[n].cols.length):∀f∈s[n].fks,∃m,FkR s db vals f m:=λf hf=>by
 obtain⟨m,hm,hr⟩:=hs.ref _ (yaa hn) f hf;have hm2:m<db.length:=by rw[h.len];exact hm
 have hR:=h.rows m hm hm2;exact⟨m,hm,hm2,hr,yai hR.len gb,(hs.big _ (yaa hm)).2.2.1,((hs.big _ (yaa hn)).2.2.2.2.2.2 f hf).1,by rw[hl];exact(hs.tab _ (yaa hn)).fk f hf,λq hq=>by rw[(hR.fit q hq).1];exact(hs.tab _ (yaa hm)).key⟩
structure zd4(I:Nat->Int->Prop)(s:List wc)(run:Chg->List Data->Res)(dp:Int):Prop where
 keeps:zfg I s run
 del:∀(n:Nat) (id:Int) (db:List Data) (x:RowD),DbG I s db->n<s.length->jai (jp db n) id=some x->Pure Tryz.prog 257 [.c (.fz (s.map ja)),.c (.fz (db.map wa)),.c (.int .i64 (n:Int)),.c (.int .i64 id),.c (.int .i64 dp)] (resV (run (.del n id) db))
 upd:∀(n:Nat) (id:Int) (vals:List Val) (rep:Bool) (db:List Data),DbG I s db->jh9 s (.upd n id vals rep)->Pure Tryz.prog 259 [.c (.fz (s.map ja)),.c (.fz (db.map wa)),.c (.int .i64 (n:Int)),.c (.int .i64 id),.c (.fz (vals.map encV)),.c (.bool rep),.c (.int .i64 dp)] (resV (run (.upd n id vals rep) db))
set_option maxHeartbeats 1000000 in
theorem jdh{run:Chg->List Data->Res}{deep:Int}(hs:SchG s)(hr:zd4 I s run (IntKind.i64.wrap (deep+1))){n:Nat}(hn:n<s.length)(x:RowD)(hx:x.vals.length=s[n].cols.length)(rep:Bool)(db:List Data)(h:DbG I s db):
 Pure Tryz.prog 322 [.c (.fz (s.map ja)),.c (.fz (db.map wa)),.c (.int .i64 (n:Int)),.agg (jc x),.c (.bool rep),.c (.int .i64 deep)] (resV (j9 run s[n] n x rep db)):=by
 refine yar jb1 λG hS hA=>?_;clear hA;have hn2:n<db.length:=by rw[h.len];exact hn
 have hR:=h.rows n hn hn2;have c1:=zhj s[n] db[n] x hR.len (zlh hs h hn hn2 hx);rw[j9,we hn2];have hrl:(j4 db[n].rows (jn s[n]) x.id x.vals).length<=60:=yai zcc hR.len;generalize j4 db[n].rows (jn s[n]) x.id x.vals=ids at c1 hrl⊢;by_cases h0:0<ids.length
 ·have h1:(ids.length:Int)>0:=O
  cases rep
  ·rw[if_pos (by simp[h0])];repeat' first|refine X ?_|((first|apply yG|apply yH|apply yI);exact rfl;(first|exact yax ja rfl hn|exact yax wa rfl hn2))|refine yaC (c1) ?_|exact yaF|refine yaS ?_ ?_<;>intro _
   exact .ret rfl (Fin.same rfl (jg ([],4) _))
  ·rw[Bool.not_true,ybj,if_neg yah];repeat' first|refine X ?_|((first|apply yG|apply yH|apply yI);exact rfl;(first|exact yax ja rfl hn|exact yax wa rfl hn2))|refine yaC (c1) ?_|exact yaF|refine yaS ?_ ?_<;>intro _
   clear c1
   refine Go.keep [0,1,2,5,14,15] (Go.loops (I:=λm fr V=>∃(i:Nat) (k:Int) (db':List Data),m=ids.length-i/\i<=ids.length/\k=i/\(DbG I s db'/\w6 run n ids db=w6 run n (ids.drop i) db')/\
    fr=[(0,.c (.fz (s.map ja))),(1,.c (.fz (db'.map wa))),(2,.c (.int .i64 (n:Int))),(5,.c (.int .i64 deep)),(14,.c (.fz (ids.map encI))),(15,.c (.int .i64 k))]/\V=E G []) ?_ _ _ _ ⟨0,_,db,rfl,yac _,rfl,⟨h,rfl⟩,rfl,rfl⟩)
   rintro m fr V ⟨i,k,db',rfl,hi,hk,⟨hdb,hst⟩,rfl,rfl⟩ hrec;by_cases hlt:i<ids.length
   ·have hn3:n<db'.length:=by rw[hdb.len];exact hn
    have hR3:=hdb.rows n hn hn3;rw[yab hlt,w6,we hn3]at hst;have c2:=wac db'[n] ids[i] (yai hR3.len gb);rcases zj db'[n].rows ids[i]with⟨hx1,hx2⟩|⟨j,hj,hx1,hx2⟩
    ·rw[hx1]at c2;rw[hx2,if_pos (show(none:Option RowD).isNone=true from rfl)]at hst;repeat' first|refine X ?_|((first|apply yG|apply yH|apply yI);exact rfl;(first|exact yax encI hk hlt|exact yax wa rfl hn3))|refine yaC (c2) ?_|exact yaF|refine yaS ?_ ?_<;>intro _
     exact Go.keep [0,1,2,5,14,15] (hrec _ _ _ O ⟨i+1,_,db',rfl,hlt,wb hk O,⟨hdb,hst⟩,rfl,rfl⟩)
    ·rw[hx1]at c2;rw[hx2,if_neg (show¬(some db'[n].rows[j]).isNone=true from yah)]at hst;have c3:=hr.del n ids[i] db' db'[n].rows[j] hdb hn (by rw[we hn3];exact hx2);have hkp:=hr.keeps (.del n ids[i]) db' hdb hn;generalize run (.del n ids[i]) db'=q at c3 hst hkp;by_cases hq:q.2=0
     ·rw[if_pos hq]at hst;rw[zaf hq]at c3;have hkq:=hkp hq;repeat' first|refine X ?_|((first|apply yG|apply yH|apply yI);exact rfl;(first|exact yax encI hk hlt|exact yax wa rfl hn3))|refine yaC (c2) ?_|refine yaC (c3) ?_|exact yaF|refine yaS ?_ ?_<;>intro _
      exact Go.keep [0,1,2,5,14,15] (hrec _ _ _ O ⟨i+1,_,q.1,rfl,hlt,wb hk O,⟨hkq,hst⟩,rfl,rfl⟩)
     ·rw[if_neg hq]at hst;obtain⟨e,he⟩:∃e,q.2=e:=⟨_,rfl⟩;rw[he]at hst hq;rw[jab he hq]at c3;rw[hst];repeat' first|refine X ?_|((first|apply yG|apply yH|apply yI);exact rfl;(first|exact yax encI hk hlt|exact yax wa rfl hn3))|refine yaC (c2) ?_|refine yaC (c3) ?_|exact yaF|refine yaS ?_ ?_<;>intro _
      exact .ret rfl (Fin.same (wai hq).symm (jg ([],e) _))
   ·rw[yad O,w6]at hst;rw[hst];repeat' first|refine X ?_|exact yaF|refine yaS ?_ ?_<;>intro _
    exact .ret rfl (Fin.same rfl (jg (db',0) _))
 ·have hz:ids=[]:=yan O;subst hz;rw[if_neg gx,w6];repeat' first|refine X ?_|((first|apply yG|apply yH|apply yI);exact rfl;(first|exact yax ja rfl hn|exact yax wa rfl hn2))|refine yaC (c1) ?_|exact yaF|refine yaS ?_ ?_<;>intro _
  apply Go.loop;repeat' first|refine X ?_|exact yaF|refine yaS ?_ ?_<;>intro _
  exact .ret rfl (Fin.same rfl (jg (db,0) _))
def jds(y:Way):List Ce:=[.int .i64 y.act,.bool y.wait,.fz (y.cols.map encI)]
inductive With:Bool->Ce->List Val->Nat->Prop where
 |gone {m:Nat}:With true .nils [] m
 |now {wth:List Val} {m:Nat} (h:m<=wth.length):With false (.fz (wth.map encV)) wth m
theorem With.old{g:Bool}{wv:Ce}{wth:List Val}{m:Nat}(h:With g wv wth m){n:Nat}:∀y∈(AV.c wv).all,Old n y:=by
 cases h with
 |gone=>intro y hy;rw[List.mem_singleton.1 hy];exact .nils
 |now h=>exact z0
theorem jc0{l:List Int}:∀y∈(AV.c (.fz (l.map encI))).all,Old n y:=wgm λe he x hx=>(wak e he).2 x hx
theorem zjp{y:Way}:∀x∈(AV.c (.fp (jds y))).all,Old n x:=λx hx=>by
 rw[List.mem_singleton.1 hx];refine .fp _ λj hj=>?_;have hj3:j<3:=hj
 match j,hj3 with
 |0,_=>exact .int _ _
 |1,_=>exact .bool _
 |2,_=>exact jc0 (l:=y.cols) _ (by simp[AV.all,jds])
variable {vs:List Val}{junk:List (List Ce)}{c:Nat}
theorem zcd(hc:c<vs.length)(u w:Val):(vs.map encV++junk).set (0+c) (jh (encV u) 0 (encV w))=(vs.set c w).map encV++junk:=by
 have h1:jh (encV u) 0 (encV w)=encV w:=rfl;rw[h1,Nat.zero_add,List.set_append_left _ _ (by simpa using hc),List.map_set]
theorem jas(hc:c<vs.length):(vs.map encV++junk)[0+c]?=some (encV vs[c]):=by
 rw[Nat.zero_add,List.getElem?_append_left (by simpa using hc)];simp[hc]
theorem jir.at0{P:Program}{f:Nat}{args:List AV}{s:Nat}{ys:List (List Ce)}(h:jir P f args s ys)(G:jb):Ok P f args (E G []) (Made G s ys):=(h.at_ (E G [])).mono λr V hq=>by
 obtain⟨v,junk,hj,rfl,rfl⟩:=hq;refine⟨v,junk,hj, ?_, ?_⟩
 ·rw[zan]
  rfl
 ·rw[E_E]
  rfl
theorem Go.ext{P:Program}{n0 nt:Nat}{rets:List RV}{R:AV->jb->Prop}{K:List AK}{fr:Fr}{G V:jb}(h:Go P n0 nt rets R K fr V)(e:V=G):Go P n0 nt rets R K fr G:=e▸h
end Go.Proofs.YtedaadaaibofaaaGreat.Am
namespace Go.Proofs.YtedaadaaibofaaaGreat.Am
variable {I:Nat->Int->Prop}

def Done(L:ChL)(n:Nat)(s:List wc)(q:Res)(V:jb)(r:AV)(V':jb):Prop:=r=.c (.int .i64 q.2)/\Kept n V V'/\(q.2=0->∃xs,wt L n s xs q.1 V')
structure wf6(I:Nat->Int->Prop)(L:ChL)(n:Nat)(s:List wc)(run:Chg->List Data->Res)(dp:Int):Prop where
 keeps:zfg I s run
 del:∀(k:Nat) (id:Int) (db:List Data) (xs:List Ce) (V:jb),wt L n s xs db V->DbG I s db->k<s.length->Ok Tryz.prog 281 [.c (.ptr L.c L.vc 0 0),.c (.int .i64 (k:Int)),.c (.int .i64 id),.c (.int .i64 dp)] V (Done L n s (run (.del k id) db) V)
 upd:∀(k:Nat) (id:Int) (vals:List Val) (rep:Bool) (db:List Data) (xs:List Ce) (V:jb),wt L n s xs db V->DbG I s db->jh9 s (.upd k id vals rep)->Ok Tryz.prog 283 [.c (.ptr L.c L.vc 0 0),.c (.int .i64 (k:Int)),.c (.int .i64 id),.c (.fz (vals.map encV)),.c (.bool rep),.c (.int .i64 dp)] V (Done L n s (run (.upd k id vals rep) db) V)
set_option maxHeartbeats 1000000 in
theorem zim{L:ChL}{n:Nat}{s:List wc}{run:Chg->List Data->Res}{deep:Int}(hs:SchG s)(hr:wf6 I L n s run (IntKind.i64.wrap (deep+1))){k:Nat}(hk:k<s.length)(id:Int)(vals:List Val)(hl:vals.length=s[k].cols.length)(rep:Bool)(db:List Data)(xs:List Ce)(V:jb)
 (h:wt L n s xs db V) (hdb:DbG I s db):Ok Tryz.prog 237 [.c (.ptr L.c L.vc 0 0),.c (.int .i64 (k:Int)),.c (.int .i64 id),.c (.fz (vals.map encV)),.c (.bool rep),.c (.int .i64 deep)] V (Done L n s (j9 run s[k] k ⟨id,vals⟩ rep db) V):=by
 refine Ok.run0 mixed wb8 gz λhS hA=>?_;clear hS hA;have hk2:k<db.length:=by rw[hdb.len];exact hk
 have hk3:k<xs.length:=by rw[h.len];exact hk2
 have hR:=hdb.rows k hk hk2;have hK:jiz s[k] db[k] ⟨id,vals⟩:=zlh hs hdb hk hk2 hl;have c1:=ji0 s[k] db[k].rows id vals (yai hR.len gb) hK.uniq hK.len hK.own hK.far;rw[j9,we hk2];have hrl:(j4 db[k].rows (jn s[k]) id vals).length<=60:=yai zcc hR.len;have hz:=h.frzR hk2 hk3;show Go _ _ _ _ (Done L n s (if(decide (0<(j4 db[k].rows (jn s[k]) id vals).length)&& !rep)=true then([],4)else w6 run k (j4 db[k].rows (jn s[k]) id vals) db) V) _ _ _;generalize j4 db[k].rows (jn s[k]) id vals=ids at c1 hrl⊢;repeat' first|refine X ?_|((first|apply yG|apply yH|apply yI);exact rfl;(first|exact wbo h rfl|exact zch h rfl|exact wdr h rfl rfl rfl hk2|exact zds h rfl hk3|exact yax ja rfl hk))|exact yaF|refine yaS ?_ ?_<;>intro _
 refine Go.scall _ rfl rfl rfl (Lend.fresh (.same (.own hz (.same (.same .nil)))) c1) ?_;rintro r9 V9 ⟨hr9,ht9⟩;rw[hr9,ht9];clear hr9 ht9;by_cases h0:0<ids.length
 ·have h1:(ids.length:Int)>0:=O
  cases rep
  ·rw[if_pos (by simp[h0])];repeat' first|refine X ?_|exact yaF|refine yaS ?_ ?_<;>intro _
   exact .ret rfl ⟨rfl,.refl,λh=>by cases h⟩
  ·rw[Bool.not_true,ybj,if_neg yah];repeat' first|refine X ?_|exact yaF|refine yaS ?_ ?_<;>intro _
   clear c1 hz
   refine Go.keep [0,1,5,42,43,44] (Go.loops (I:=λm fr V'=>∃(i:Nat) (ki:Int) (db':List Data) (xs':List Ce),m=ids.length-i/\i<=ids.length/\ki=i/\(DbG I s db'/\wt L n s xs' db' V'/\Kept n V V'/\w6 run k ids db=w6 run k (ids.drop i) db')/\
    fr=[(0,.c (.ptr L.c L.vc 0 0)),(1,.c (.int .i64 (k:Int))),(5,.c (.int .i64 deep)),(42,.c (.fz (ids.map encI))),(43,.c (.int .i64 (ids.length:Int))),(44,.c (.int .i64 ki))]) ?_ _ _ _ ⟨0,_,db,xs,rfl,yac _,rfl,⟨hdb,h,.refl,rfl⟩,rfl⟩)
   rintro m fr V1 ⟨i,ki,db',xs',rfl,hi,hki,⟨hdb',hH,hkp,hst⟩,rfl⟩ hrec;by_cases hlt:i<ids.length
   ·have hn3:k<db'.length:=by rw[hdb'.len];exact hk
    have hn4:k<xs'.length:=by rw[hH.len];exact hn3
    have hR3:=hdb'.rows k hk hn3;rw[yab hlt,w6,we hn3]at hst;have cf:=zcu hH hn3 hn4 ids[i] hR3.len;rcases zj db'[k].rows ids[i]with⟨hx1,hx2⟩|⟨j,hj,hx1,hx2⟩
    ·rw[hx2,if_pos (show(none:Option RowD).isNone=true from rfl)]at hst;repeat' first|refine X ?_|((first|apply yG|apply yH|apply yI);exact rfl;(first|exact yax encI hki hlt))|exact yaF|refine yaS ?_ ?_<;>intro _
     refine .call _ rfl rfl rfl (cf.1 hx2) ?_;rintro r9 V9 ⟨hr9,ht9⟩;rw[hr9,ht9];clear hr9 ht9;repeat' first|refine X ?_|exact yaF|refine yaS ?_ ?_<;>intro _
     exact Go.keep [0,1,5,42,43,44] (hrec _ _ _ O ⟨i+1,_,db',xs',rfl,hlt,wb hki O,⟨hdb',hH,hkp,hst⟩,rfl⟩)
    ·rw[hx2,if_neg (show¬(some db'[k].rows[j]).isNone=true from yah)]at hst;obtain⟨lab2,ps2,id2,v2,junk2,hat,hl2⟩:=hH.some hn3 hn4 (Nat.lt_of_le_of_lt (yac _) hj);have c2:=hr.del k ids[i] db' xs' V1 hH hdb' hk;have hkp2:=hr.keeps (.del k ids[i]) db' hdb' hk;generalize run (.del k ids[i]) db'=q at c2 hst hkp2;repeat' first|refine X ?_|((first|apply yG|apply yH|apply yI);exact rfl;(first|exact yax encI hki hlt))|exact yaF|refine yaS ?_ ?_<;>intro _
     refine .call _ rfl rfl rfl (cf.2 j hj hx1 _ _ _ _ _ hat) ?_;rintro r9 V9 ⟨hr9,ht9⟩;rw[hr9,ht9];clear hr9 ht9;repeat' first|refine X ?_|exact yaF|refine yaS ?_ ?_<;>intro _
     refine .call _ rfl rfl rfl c2 ?_;rintro r9 V2 ⟨hr9,hk9,hq9⟩;rw[hr9];clear hr9;by_cases hq:q.2=0
     ·rw[if_pos hq]at hst;obtain⟨xs2,hH2⟩:=hq9 hq;rw[hq];repeat' first|refine X ?_|exact yaF|refine yaS ?_ ?_<;>intro _
      exact Go.keep [0,1,5,42,43,44] (hrec _ _ _ O ⟨i+1,_,q.1,xs2,rfl,hlt,wb hki O,⟨hkp2 hq,hH2,hkp.trans hk9,hst⟩,rfl⟩)
     ·rw[if_neg hq]at hst;rw[hst];generalize q.2=e at hq⊢;repeat' first|refine X ?_|exact yaF|refine yaS ?_ ?_<;>intro _
      exact .ret rfl ⟨rfl,hkp.trans hk9,λh=>absurd h hq⟩
   ·rw[yad O,w6]at hst;rw[hst];repeat' first|refine X ?_|exact yaF|refine yaS ?_ ?_<;>intro _
    exact .ret rfl ⟨rfl,hkp,λ_=>⟨xs',hH⟩⟩
 ·have hz:ids=[]:=yan O;subst hz;rw[if_neg gx,w6];repeat' first|refine X ?_|exact yaF|refine yaS ?_ ?_<;>intro _
  apply Go.loop;repeat' first|refine X ?_|exact yaF|refine yaS ?_ ?_<;>intro _
  exact .ret rfl ⟨rfl,.refl,λ_=>⟨xs,h⟩⟩
end Go.Proofs.YtedaadaaibofaaaGreat.Am
