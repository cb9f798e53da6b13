/- Joined texts: Am1, Am2, Am3, Am4, Am5, Am6, Am7, Am8, Am9, Am10, Am11, Am12, Am13, Am14, Am15, Am16, Am17. -/
import Derived.Orders
import Derived.RowKit3
import Derived.OneCell
import Derived.Deep.AppendSrc
import Derived.Laws.MakeOwn
import Derived.Laws.BytesString
import Derived.Laws.StructEq
import Derived.IntWalk
import Derived.Laws.Tables
import Derived.Laws.CopyRow
import Derived.Deep.Upon
import Derived.Maps.AppendAt
import Derived.Eval
set_option linter.unusedVariables false
set_option linter.unusedSimpArgs false
namespace Go.Proofs.YtedaadaaibofaaaGreat.Am
abbrev yaa:= @List.getElem_mem
abbrev yab:= @List.drop_eq_getElem_cons
abbrev yac:= @Nat.zero_le
abbrev yad:= @List.drop_eq_nil_of_le
abbrev yae:= @List.length_map
abbrev yaf:= @Nat.le_refl
abbrev yag:= @List.getElem?_eq_getElem
abbrev yah:= @Bool.false_ne_true
abbrev yai:= @Nat.le_trans
abbrev yaj:= @List.take_succ_eq_append_getElem
abbrev yak:= @List.map_append
abbrev yal:= @Nat.lt_succ_self
abbrev yam:= @Nat.le_of_ble_eq_true
abbrev yan:= @List.eq_nil_of_length_eq_zero
abbrev yao:= @List.take_of_length_le
abbrev yapq:= @Nat.mul_le_mul_right
abbrev yaqq:= @List.length_append
abbrev yarq:= @List.getElem_append_left
abbrev yasq:= @List.length_set
abbrev yat:= @List.length_take
abbrev yau:= @Bool.and_eq_true
abbrev yav:= @Bool.true_and
abbrev yaw:= @Nat.lt_succ_of_lt
abbrev yaxq:= @Nat.add_mul
abbrev yay:= @Nat.lt_of_lt_of_le
abbrev yaz:= @Int.le_refl
abbrev yba:= @List.getElem?_append_left
abbrev ybb:= @Int.toNat_natCast
abbrev ybc:= @Nat.le_add_right
abbrev ybd:= @Nat.eq_zero_or_pos
abbrev ybe:= @List.append_nil
abbrev ybf:= @List.length_singleton
abbrev ybg:= @Bool.false_and
abbrev ybh:= @Nat.le_succ
abbrev ybi:= @List.length_replicate
abbrev ybj:= @Bool.and_false
abbrev ybk:= @Nat.zero_add
abbrev ybl:= @List.nil_append
abbrev ybm:= @List.mem_or_eq_of_mem_set
abbrev ybn:= @List.append_assoc
abbrev ybo:= @List.eq_of_mem_replicate
abbrev ybp:= @List.mem_of_mem_drop
abbrev ybq:= @List.getElem?_append_right
abbrev ybr:= @List.getElem_of_mem
abbrev ybs:= @List.any_eq_false
abbrev ybt:= @List.length_filter_le
abbrev ybu:= @Bool.false_or
abbrev ybv:= @List.map_cons
abbrev ybw:= @List.all_cons
variable {p:Prop}
theorem O(h:p:=by omega):p:=h
theorem gx(h:p:=by simp):p:=h
theorem gb(h:p:=by decide):p:=h
theorem gq(h:p:=by simp;omega):p:=h
theorem gz{n m:Nat}(h:Nat.ble n m=true:=by exact rfl):n<=m:=yam h
open Go.RowKit

inductive Ce where
 |int (k:IntKind) (n:Int)
 |bool (b:Bool)
 |str (s:List UInt8)
 |nilp
 |nils
 |nilf
 | emp                                   -- an empty slice without capacity, nil or not
 | any                                   -- of which nothing is known
 | fz (es : List (List Ce))              -- a slice that nobody writes any more: its elements, each as its cells
 | fp (cs : List Ce)                     -- a pointer to cells that nobody writes any more
 | sl (id v i n c : Nat)                 -- a slice of an owned block: from element i, n elements, c at least in its capacity
 | ptr (id v i j : Nat)                  -- a pointer into an owned block: element i, cell j
 |fn (f:Nat) (pre cap:List Ce)
 deriving Inhabited

inductive AV where
 |c (x:Ce)
 |agg (cs:List Ce)
 |tup (vs:List AV)
 |un
 deriving Inhabited

structure Loc where
 b:Nat
 s:Nat
 base:Nat
 virt:Bool

structure Cx where
 μ:Nat->Nat->Loc
 F:Nat->Nat->Prop
 M:Nat->Prop
 w:World

inductive Rp(C:Cx):Ce->Value->Prop where
 |int (k:IntKind) (n:Int):Rp C (.int k n) (.int k n)
 |bool (b:Bool):Rp C (.bool b) (.bool b)
 |str (s:List UInt8):Rp C (.str s) (.string ⟨s.toArray⟩)
 |nilp:Rp C .nilp (.pointer none)
 |nils:Rp C .nils (.slice none 0 0)
 |nilf:Rp C .nilf .nilFunc
 |emp (a:Option Addr):Rp C .emp (.slice a 0 0)
 |any (v:Value) (h1:∀cs,v≠.agg cs) (h2:∀cs,v≠.tuple cs):Rp C .any v
 |fz0 (a:Option Addr) (cap:Nat):Rp C (.fz []) (.slice a 0 cap)
 |fz (es:List (List Ce)) (b o cap s:Nat) (vs:Nat->Nat->Value) (hl:b<C.w.heap.size) (hM:¬C.M b) (hc:es.length<=cap)
  (hs:∀i (hi:i<es.length),es[i].length=s)
  (cell:∀i j,i<es.length->j<s->C.w.cell? ⟨b,o+(i*s+j),none⟩=some (vs i j))
  (h:∀i j (hi:i<es.length) (hj:j<es[i].length),Rp C (es[i][j]) (vs i j)):Rp C (.fz es) (.slice (some ⟨b,o,none⟩) es.length cap)
 |fp (cs:List Ce) (b o:Nat) (vs:Nat->Value) (hl:b<C.w.heap.size) (hM:¬C.M b)
  (cell:∀j,j<cs.length->C.w.cell? ⟨b,o+j,none⟩=some (vs j))
  (h:∀j (hj:j<cs.length),Rp C (cs[j]) (vs j)):Rp C (.fp cs) (.pointer (some ⟨b,o,none⟩))
 |sl0 (id v i:Nat) (a:Option Addr) (hF:C.F id v):Rp C (.sl id v i 0 0) (.slice a 0 0)
 |sl (id v i n c cap:Nat) (hF:C.F id v) (hn:n<=c) (hc:c<=cap) (hv:(C.μ id v).virt=false)
  (hk:∃cs t,C.w.heap[(C.μ id v).b]?=some (.cells cs t (0,0))/\(C.μ id v).base+(i+cap)*(C.μ id v).s<=cs.size):
  Rp C (.sl id v i n c) (.slice (some ⟨(C.μ id v).b,(C.μ id v).base+i*(C.μ id v).s,none⟩) n cap)
 |ptr (id v i j:Nat) (hF:C.F id v) (hv:(C.μ id v).virt=false):Rp C (.ptr id v i j) (.pointer (some ⟨(C.μ id v).b,(C.μ id v).base+(i*(C.μ id v).s+j),none⟩))
 |fn (f:Nat) (pre cap:List Ce) (ps cs:Array Value) (hp:ps.size=pre.length) (hc:cs.size=cap.length)
  (h1:∀i (hi:i<pre.length),Rp C pre[i] (ps[i]'O)) (h2:∀i (hi:i<cap.length),Rp C cap[i] (cs[i]'O)):Rp C (.fn f pre cap) (.func (.func f) ps cs)

inductive RpV(C:Cx):AV->Value->Prop where
 |c {x:Ce} {v:Value} (h:Rp C x v):RpV C (.c x) v
 |agg {cs:List Ce} {vs:Array Value} (hl:vs.size=cs.length) (h:∀i (hi:i<cs.length),Rp C cs[i] (vs[i]'O)):RpV C (.agg cs) (.agg vs)
 |tup {xs:List AV} {vs:Array Value} (hl:vs.size=xs.length) (h:∀i (hi:i<xs.length),RpV C xs[i] (vs[i]'O)):RpV C (.tup xs) (.tuple vs)
 |un (v:Value):RpV C .un v

variable {C:Cx}{x:Ce}{v:Value}
theorem Rp.one(h:Rp C x v):(∀cs,v≠.agg cs)/\(∀cs,v≠.tuple cs):=by
 cases h<;>first|exact⟨by assumption,by assumption⟩|exact⟨λ_ e=>(by cases e),λ_ e=>(by cases e)⟩
theorem Rp.oneCells(h:Rp C x v):v.cells=#[v]:=by
 have:=h.one
 cases v<;>first|rfl|exact absurd rfl (this.1 _)

structure Cx.Le(C D:Cx):Prop where
 F:∀id v,C.F id v->D.F id v/\D.μ id v=C.μ id v
 os:D.w.os=C.w.os
 tape:D.w.tape=C.w.tape
 output:D.w.output=C.w.output
 size:C.w.heap.size<=D.w.heap.size
 keep:∀b,b<C.w.heap.size->¬C.M b->D.w.heap[b]?=C.w.heap[b]?
 shp:∀(b:Nat) cs t,C.w.heap[b]?=some (.cells cs t (0,0))->∃cs',D.w.heap[b]?=some (.cells cs' t (0,0))/\cs'.size=cs.size
 M:∀b,b<C.w.heap.size->D.M b->C.M b
theorem Cx.Le.refl(C:Cx):C.Le C:=⟨λ_ _ h=>⟨h,rfl⟩,rfl,rfl,rfl,yaf _,λ_ _ _=>rfl,λ_ cs _ h=>⟨cs,h,rfl⟩,λ_ _ h=>h⟩
variable {D:Cx}
theorem Cx.Le.trans{A B:Cx}(h:A.Le B)(k:B.Le D):A.Le D where
 F id v hf:=⟨(k.F id v (h.F id v hf).1).1,((k.F id v (h.F id v hf).1).2).trans (h.F id v hf).2⟩
 os:=k.os.trans h.os
 tape:=k.tape.trans h.tape
 output:=k.output.trans h.output
 size:=yai h.size k.size
 keep b hb hM:=(k.keep b (yay hb h.size) (λhm=>hM (h.M b hb hm))).trans (h.keep b hb hM)
 shp b cs t hc:=by
  obtain⟨cs1,h1,e1⟩:=h.shp b cs t hc;obtain⟨cs2,h2,e2⟩:=k.shp b cs1 t h1;exact⟨cs2,h2,e2.trans e1⟩
 M b hb hm:=h.M b hb (k.M b (yay hb h.size) hm)

theorem Cx.Le.cell(h:C.Le D){b o:Nat}(hb:b<C.w.heap.size)(hM:¬C.M b):D.w.cell? ⟨b,o,none⟩=C.w.cell? ⟨b,o,none⟩:=by
 simp only[World.cell?,h.keep b hb hM]

theorem Rp.mono(le:C.Le D){x:Ce}{v:Value}(h:Rp C x v):Rp D x v:=by
 induction h with
 |int k n=>exact .int k n
 |bool b=>exact .bool b
 |str s=>exact .str s
 |nilp=>exact .nilp
 |nils=>exact .nils
 |nilf=>exact .nilf
 |emp a=>exact .emp a
 |any v h1 h2=>exact .any v h1 h2
 |fz0 a cap=>exact .fz0 a cap
 |fz es b o cap s vs hl hM hc hs cell h ih=>
  exact .fz es b o cap s vs (yay hl le.size) (λhm=>hM (le.M b hl hm)) hc hs (λi j hi hj=>(le.cell hl hM).trans (cell i j hi hj)) ih
 |fp cs b o vs hl hM cell h ih=>
  exact .fp cs b o vs (yay hl le.size) (λhm=>hM (le.M b hl hm)) (λj hj=>(le.cell hl hM).trans (cell j hj)) ih
 |sl0 id v i a hF=>exact .sl0 id v i a (le.F id v hF).1
 |sl id v i n c cap hF hn hc hv hk=>
  obtain⟨hF',e⟩:=le.F id v hF;obtain⟨cs,t,hb,hz⟩:=hk;obtain⟨cs',hb',hz'⟩:=le.shp _ cs t hb;have:=Rp.sl (C:=D) id v i n c cap hF' hn hc (by rw[e];exact hv) (by rw[e];exact⟨cs',t,hb',O⟩);rw[e]at this;exact this
 |ptr id v i j hF hv=>
  obtain⟨hF',e⟩:=le.F id v hF;have:=Rp.ptr (C:=D) id v i j hF' (by rw[e];exact hv);rw[e]at this;exact this
 |fn f pre cap ps cs hp hc h1 h2 ih1 ih2=>exact .fn f pre cap ps cs hp hc ih1 ih2

theorem RpV.mono(le:C.Le D){x:AV}{v:Value}(h:RpV C x v):RpV D x v:=by
 induction h with
 |c h=>exact .c (h.mono le)
 |agg hl h=>exact .agg hl λi hi=>(h i hi).mono le
 |tup hl h ih=>exact .tup hl ih
 |un v=>exact .un v

structure jb where
 next:Nat
 get:Nat->Option (Nat×List (List Ce))
def jb.put(G:jb)(id:Nat)(x:Nat×List (List Ce)):jb:={G with get:=λj=>if j=id then some x else G.get j}
def jb.new(G:jb)(x:Nat×List (List Ce)):jb:={next:=G.next+1,get:=λj=>if j=G.next then some x else G.get j}
structure Rl(C:Cx)(G:jb):Prop where
 F:∀id v,C.F id v->id<G.next
 live:∀id v es,G.get id=some (v,es)->C.F id v/\(∀v',C.F id v'->v'<=v)/\((C.μ id v).virt=true↔es=[])
 M:∀b,C.M b↔∃id v es,G.get id=some (v,es)/\es≠[]/\(C.μ id v).b=b
 inj:∀id v es id' v' es',G.get id=some (v,es)->es≠[]->G.get id'=some (v',es')->es'≠[]->(C.μ id v).b=(C.μ id' v').b->id=id'
 blk:∀id v es,G.get id=some (v,es)->es≠[]->∃cs t,C.w.heap[(C.μ id v).b]?=some (.cells cs t (0,0))/\
  (C.μ id v).base+es.length*(C.μ id v).s<=cs.size/\
  (∀i (hi:i<es.length),es[i].length=(C.μ id v).s)/\
  ∀i j (hi:i<es.length) (hj:j<es[i].length),∃u,cs[(C.μ id v).base+(i*(C.μ id v).s+j)]?=some u/\Rp C es[i][j] u

abbrev Fr:=List (Nat×AV)
def look(fr:Fr)(t:Nat):Option AV:=
 match fr with
 |[]=>none
 |(j,x)::r=>if j=t then some x else look r t
structure FrR(C:Cx)(nt:Nat)(fr:Fr)(a:Act):Prop where
 defers:a.defers=[]
 size:a.tmps.size=nt
 slot:∀t x,look fr t=some x->t<nt/\RpV C x (a.tmps.getD t undef)
theorem FrR.mono(le:C.Le D){nt:Nat}{fr:Fr}{a:Act}(h:FrR C nt fr a):FrR D nt fr a:=⟨h.defers,h.size,λt x hx=>⟨(h.slot t x hx).1,(h.slot t x hx).2.mono le⟩⟩
theorem FrR.put{nt:Nat}{fr:Fr}{a:Act}(h:FrR C nt fr a){d:Nat}(hd:d<nt){x:AV}{v:Value}(hx:RpV C x v):FrR C nt ((d,x)::fr) (a.put (some d) v):=by
 refine⟨h.defers,by simp[Act.put,h.size],λt y hy=>?_⟩;simp only[look]at hy;split at hy
 ·rename_i e;subst e;injection hy with hy;subst hy;refine⟨hd, ?_⟩;have:d<a.tmps.size:=by rw[h.size];exact hd
  simpa [Act.put,this]using hx
 ·rename_i e;obtain⟨h1,h2⟩:=h.slot t y hy;refine⟨h1, ?_⟩;have:(a.tmps.setIfInBounds d v).getD t undef=a.tmps.getD t undef:=by
   simp[Array.getElem?_setIfInBounds_ne e]
  simpa [Act.put,this]using h2
end Go.Proofs.YtedaadaaibofaaaGreat.Am
namespace Go.Proofs.YtedaadaaibofaaaGreat.Am
open Go.RowKit

inductive Opd where
 |t (i:Nat)
 |k (x:Ce)
 |ka (cs:List Ce)
 |f (n:Nat)
 deriving Inhabited

inductive EK where
 |i|b|s|sl|pt|fn
 deriving DecidableEq,Inhabited

inductive AOp where
 |mv (x:Opd)
 |pick (c a b:Opd)
 |box (fz:Bool) (x:Opd)
 |alloc (z:List Ce)
 |build (z:List Ce) (ps:List (Nat×Nat×Opd))
 |mksl (fz:Bool) (s n:Nat) (z:List Ce) (ps:List (Nat×Opd))
 |load (agg:Bool) (s:Nat) (a:Opd)
 |store (s:Nat) (a x:Opd)
 |nilc (x:Opd)
 |bin (op:BinOp) (x y:Opd)
 |eq (neg agg:Bool) (ks:List EK) (x y:Opd)
 |un (op:UnOp) (x:Opd)
 |conv (k:IntKind) (x:Opd)
 |b2s (x:Opd)
 |mkfn (f:Nat) (pre cap:List Opd)
 |mkslice (s bytes:Nat) (z:List Ce) (l c:Opd)
 |slice (s:Nat) (x:Opd) (lo hi mx:Option Opd)
 |strsl (x:Opd) (lo hi:Option Opd)
 |faddr (off:Nat) (x:Opd)
 |fld (agg:Bool) (off s:Nat) (x:Opd)
 |iaddr (s:Nat) (x i:Opd)
 |iarr (n s:Nat) (x i:Opd)
 |idx (x i:Opd)
 |idxa (agg:Bool) (n s:Nat) (x i:Opd)
 |ext (x:Opd) (i:Nat)
 |len (str:Bool) (x:Opd)
 |app (s bytes:Nat) (x y:Opd)
 |clear (z:List Ce) (x:Opd)
 |mm (mx:Bool) (x y:Opd)
 |copy (s:Nat) (x y:Opd)
 |cap (x:Opd)
 | appz (s bytes : Nat) (z : List Ce) (x n : Opd)   -- n zeros behind a slice
 | stuck                                  -- never reached: a panic
 deriving Inhabited

inductive AO where
 |op (o:AOp)
 |call (f:Opd) (args:List Opd)
 deriving Inhabited
structure jd where
 dst:Option Nat
 op:AO
 guard:Option (Nat×Bool)
 deriving Inhabited

def ceOf:Value->Option Ce
 |.int k n=>some (.int k n)
 |.bool b=>some (.bool b)
 |.string s=>some (.str s.data.toList)
 |.pointer none=>some .nilp
 |.slice none 0 0=>some .nils
 |.nilFunc=>some .nilf
 |.nilIface=>some .any
 |_=>none
def whp(vs:List Value):Option (List Ce):=vs.mapM ceOf
def zh:Operand->Option Opd
 |.tmp t=>some (.t t)
 |.const (.agg cs)=>(whp cs.toList).map .ka
 |.const v=>(ceOf v).map .k
 |.func f=>some (.f f)
 |.global _=>none
def wa9:Option Operand->Option (Option Opd)
 |none=>some none
 |some x=>(zh x).map some
def ww(P:Program)(t:TypeId):Option Nat:=(P.info? t).map (·.size)
def wap(P:Program)(t:TypeId):Option (List Ce):=((P.info? t).bind (·.zero)).bind λv=>whp v.cells.toList
def jbw(P:Program)(t:TypeId):Option Bool:=
 match P.underlying t with
 |some (.struct _)|some (.array _ _)=>some true
 |some _=>some false
 |none=>none
def wif(P:Program)(t:TypeId):Option TypeId:=
 match P.underlying t with
 |some (.slice e)=>some e
 |_=>none
def wdu(P:Program)(t:TypeId)(i:Nat):Option (Nat×Nat×TypeId):=
 match P.underlying t with
 |some (.struct fs)=>
  match fs[i]? with
  |some f=>(ww P f.type).map λs=>(f.offset,s,f.type)
  |none=>none
 |_=>none

def zhq(P:Program)(t:TypeId):Option (Nat->Option (Nat×Nat)):=
 match P.underlying t with
 |some (.struct fs)=>(fs.toList.mapM (λf=>(P.info? f.type).map λi=>(f.offset,i.size))).map λl=>λi=>l.toArray[i]?
 |some (.array _ e)=>(ww P e).map λs=>λi=>some (i*s,s)
 |_=>none
def zdv(pl:Nat->Option (Nat×Nat)):List (Nat×Operand)->Option (List (Nat×Nat×Opd))
 |[]=>some []
 |(i,x)::r=>
  match pl i,zh x,zdv pl r with
  |some (off,s),some y,some l=>some ((off,s,y)::l)
  |_,_,_=>none
def jdv:List (Nat×Operand)->Option (List (Nat×Opd))
 |[]=>some []
 |(i,x)::r=>
  match zh x,jdv r with
  |some y,some l=>some ((i,y)::l)
  |_,_=>none

def jbs(P:Program):Nat->TypeId->Option (List EK)
 |0,_=>none
 |d+1,t=>
  match P.underlying t with
  |some (.int _)=>some [.i]
  |some .string=>some [.s]
  |some .bool=>some [.b]
  |some (.struct fs)=>
   if P.stoodInHeld t then none else
   fs.toList.foldlM (λks f=>if f.name != "_" &&f.offset==ks.length then
    (match jbs P d f.type with
     |some l=>if ww P f.type=some l.length then some (ks++l)else none
     |none=>none)else none) []
  |_=>none

def wm(P:Program)(fz:Bool)(o:Op):Option AO:=
 match o with
 |.move x|.assign x=>(zh x).map λx=>.op (.mv x)
 |.pick c a b=>do pure (.op (.pick (<-zh c) (<-zh a) (<-zh b)))
 |.box _ x=>do pure (.op (.box fz (<-zh x)))
 |.alloc t=>do pure (.op (.alloc (<-wap P t)))
 |.build t ps=>do
  let z<-wap P t
  let pl<-zhq P t
  let ps<-zdv pl ps.toList
  pure (.op (.build z ps))
 |.buildSlice t n ps=>do
  let e<-wif P t
  let s<-ww P e
  let z<-wap P e
  let ps<-jdv ps.toList
  if z.length=s/\0<s/\n*s<=65536 then pure (.op (.mksl fz s n z ps))else none
 |.load t a=>do pure (.op (.load (<-jbw P t) (<-ww P t) (<-zh a)))
 |.store t a x=>do pure (.op (.store (<-ww P t) (<-zh a) (<-zh x)))
 |.nilCheck x=>do pure (.op (.nilc (<-zh x)))
 |.binOp op t x y _=>
  if op=.eql\/op=.neq then
   match P.underlying t with
   |some (.int _)|some .string=>do pure (.op (.bin op (<-zh x) (<-zh y)))
   |some .bool=>do pure (.op (.eq (op==.neq) false [.b] (<-zh x) (<-zh y)))
   |some (.slice _)=>do pure (.op (.eq (op==.neq) false [.sl] (<-zh x) (<-zh y)))
   |some (.pointer _)=>do pure (.op (.eq (op==.neq) false [.pt] (<-zh x) (<-zh y)))
   |some (.func _ _ _)=>do pure (.op (.eq (op==.neq) false [.fn] (<-zh x) (<-zh y)))
   |some (.struct _)=>if P.eqGuardType P.depth t then none else do
    let ks<-jbs P 8 t
    pure (.op (.eq (op==.neq) true ks (<-zh x) (<-zh y)))
   |_=>none
  else do pure (.op (.bin op (<-zh x) (<-zh y)))
 |.unOp op _ x=>do pure (.op (.un op (<-zh x)))
 |.convert src dst x=>
  match P.underlying src,P.underlying dst with
  |some (.int _),some (.int k)=>do pure (.op (.conv k (<-zh x)))
  |some (.slice e),some .string=>
   match P.underlying e with
   |some (.int .u8)=>do pure (.op (.b2s (<-zh x)))
   |_=>none
  |_,_=>none
 |.makeFunc (.func f) pre cap=>do pure (.op (.mkfn f (<-pre.toList.mapM zh) (<-cap.toList.mapM zh)))
 |.makeSlice t l c=>do
  let e<-wif P t
  let s<-ww P e
  let z<-wap P e
  let i<-P.info? e
  if z.length=s/\0<s/\0<i.bytes then pure (.op (.mkslice s i.bytes z (<-zh l) (<-zh c)))else none
 |.slice t x lo hi mx=>
  match P.underlying t with
  |some .string=>match mx with
   |none=>do pure (.op (.strsl (<-zh x) (<-wa9 lo) (<-wa9 hi)))
   |some _=>none
  |some (.slice e)=>do
   let s<-ww P e
   if 0<s/\(mx.isNone\/hi.isSome)then pure (.op (.slice s (<-zh x) (<-wa9 lo) (<-wa9 hi) (<-wa9 mx)))else none
  |_=>none
 |.fieldAddr t x i=>do
  let(off,s,_)<-wdu P t i
  if 0<s then pure (.op (.faddr off (<-zh x)))else none
 |.field t x i=>do
  let(off,s,ft)<-wdu P t i
  pure (.op (.fld (<-jbw P ft) off s (<-zh x)))
 |.indexAddr t x i=>
  match P.underlying t with
  |some (.slice e)=>do
   let s<-ww P e
   if 0<s then pure (.op (.iaddr s (<-zh x) (<-zh i)))else none
  |some (.array n e)=>do pure (.op (.iarr n (<-ww P e) (<-zh x) (<-zh i)))
  |_=>none
 |.index t x i=>
  match P.underlying t with
  |some .string=>do pure (.op (.idx (<-zh x) (<-zh i)))
  |some (.array n e)=>do pure (.op (.idxa (<-jbw P e) n (<-ww P e) (<-zh x) (<-zh i)))
  |_=>none
 |.extract x i=>do pure (.op (.ext (<-zh x) i))
 |.call c=>
  match c.callee with
  |.value f=>do pure (.call (<-zh f) (<-c.args.toList.mapM zh))
  |.builtin .len=>
   match c.args.toList,c.argTypes.toList with
   |[x],[t]=>
    match P.underlying t with
    |some .string=>do pure (.op (.len true (<-zh x)))
    |some (.slice _)=>do pure (.op (.len false (<-zh x)))
    |_=>none
   |_,_=>none
  |.builtin .append=>
   match c.args.toList,c.argTypes.toList with
   |[x,y],[t,u]=>
    match P.underlying t,P.underlying u with
    |some (.slice e),some (.slice _)=>do
     let s<-ww P e
     let i<-P.info? e
     let z<-wap P e
     if 0<s/\0<i.bytes/\z.length=s then pure (.op (.app s i.bytes (<-zh x) (<-zh y)))else none
    |some (.slice e),some .string=>do
     let s<-ww P e
     let i<-P.info? e
     let z<-wap P e
     if s=1/\0<i.bytes/\z.length=s then pure (.op (.app s i.bytes (<-zh x) (<-zh y)))else none
    |some (.slice e),some (.int .i64)=>do
     let s<-ww P e
     let i<-P.info? e
     let z<-wap P e
     if 0<s/\0<i.bytes/\z.length=s then pure (.op (.appz s i.bytes z (<-zh x) (<-zh y)))else none
    |_,_=>none
   |_,_=>none
  |.builtin .clear=>
   match c.args.toList,c.argTypes.toList with
   |[x],[t]=>
    match P.underlying t with
    |some (.slice e)=>do pure (.op (.clear (<-wap P e) (<-zh x)))
    |_=>none
   |_,_=>none
  |.builtin .max=>
   match c.args.toList with
   |[x,y]=>do pure (.op (.mm true (<-zh x) (<-zh y)))
   |_=>none
  |.builtin .min=>
   match c.args.toList with
   |[x,y]=>do pure (.op (.mm false (<-zh x) (<-zh y)))
   |_=>none
  |.builtin .copy=>
   match c.args.toList,c.argTypes.toList with
   |[x,y],[t,u]=>
    match P.underlying t,P.underlying u with
    |some (.slice e),some (.slice _)=>do pure (.op (.copy (<-ww P e) (<-zh x) (<-zh y)))
    |_,_=>none
   |_,_=>none
  |.builtin .cap=>
   match c.args.toList,c.argTypes.toList with
   |[x],[t]=>
    match P.underlying t with
    |some (.slice _)=>do pure (.op (.cap (<-zh x)))
    |_=>none
   |_,_=>none
  |_=>none
 |.makeInterface _ _=>some (.op .stuck)
 |.panic _=>some (.op .stuck)
 |_=>none

def Opd.ev(fr:Fr):Opd->Option AV
 |.t i=>look fr i
 |.k x=>some (.c x)
 |.ka cs=>some (.agg cs)
 |.f n=>some (.c (.fn n [] []))
def AV.cells:AV->Option (List Ce)
 |.c x=>some [x]
 |.agg cs=>some cs
 |_=>none
def jh{α:Type}(l:List α)(k:Nat)(x:List α):List α:=l.take k++x++l.drop (k+x.length)

def wgx(fr:Fr)(z:List Ce):List (Nat×Nat×Opd)->Option (List Ce)
 |[]=>some z
 |(off,s,x)::r=>
  match(x.ev fr).bind AV.cells with
  |some cs=>if cs.length=s/\off+s<=z.length then wgx fr (jh z off cs) r else none
  |none=>none
def wf9(fr:Fr)(s:Nat)(es:List (List Ce)):List (Nat×Opd)->Option (List (List Ce))
 |[]=>some es
 |(i,x)::r=>
  match(x.ev fr).bind AV.cells with
  |some cs=>if cs.length=s/\i<es.length then wf9 fr s (es.set i cs) r else none
  |none=>none
def evs(fr:Fr):List Opd->Option (List AV)
 |[]=>some []
 |x::r=>match x.ev fr,evs fr r with
  |some v,some vs=>some (v::vs)
  |_,_=>none
def evc(fr:Fr):List Opd->Option (List Ce)
 |[]=>some []
 |x::r=>match x.ev fr,evc fr r with
  |some (.c v),some vs=>some (v::vs)
  |_,_=>none

def eqK:EK->Ce->Ce->Option Bool
 |.i,.int k a,.int k' b=>if k=k' then some (a==b)else none
 |.b,.bool a,.bool b=>some (a==b)
 |.s,.str a,.str b=>some (a==b)
 |.sl,.nils,.nils=>some true
 |.sl,.fz (_::_),.nils=>some false
 |.sl,.nils,.fz (_::_)=>some false
 |.sl,.sl _ _ _ (_+1) _,.nils=>some false
 |.pt,.nilp,.nilp=>some true
 |.pt,.fp _,.nilp=>some false
 |.pt,.ptr ..,.nilp=>some false
 |.fn,.nilf,.nilf=>some true
 |.fn,.fn ..,.nilf=>some false
 |_,_,_=>none
def eqKs:List EK->List Ce->List Ce->Option Bool
 |[],[],[]=>some true
 |k::ks,a::x,b::y=>match eqK k a b,eqKs ks x y with
  |some p,some q=>some (p&&q)
  |_,_=>none
 |_,_,_=>none
def jb6:List UInt8->List UInt8->Bool:=Op.bytesLess
def binA(op:BinOp):AV->AV->Option AV
 |.c (.int k a),.c (.int k' b)=>
  match op with
  |.shl=>if 0<=b then some (.c (.int k (k.wrap (a*2^(min b.toNat k.bits)))))else none
  |.shr=>if 0<=b then some (.c (.int k (a.fdiv (2^(min b.toNat k.bits)))))else none
  |.add=>if k=k' then some (.c (.int k (k.wrap (a+b))))else none
  |.sub=>if k=k' then some (.c (.int k (k.wrap (a-b))))else none
  |.mul=>if k=k' then some (.c (.int k (k.wrap (a*b))))else none
  |.quo=>if k=k'/\b≠0 then some (.c (.int k (k.wrap (a.tdiv b))))else none
  |.rem=>if k=k'/\b≠0 then some (.c (.int k (a.tmod b)))else none
  |.eql=>if k=k' then some (.c (.bool (a==b)))else none
  |.neq=>if k=k' then some (.c (.bool (a !=b)))else none
  |.lss=>if k=k' then some (.c (.bool (a<b)))else none
  |.leq=>if k=k' then some (.c (.bool (a<=b)))else none
  |.gtr=>if k=k' then some (.c (.bool (a>b)))else none
  |.geq=>if k=k' then some (.c (.bool (a≥b)))else none
  |.or=>if k=k' then some (.c (.int k (k.wrap (BitVec.ofInt k.bits a|||BitVec.ofInt k.bits b).toNat)))else none
  |.and=>if k=k' then some (.c (.int k (k.wrap (BitVec.ofInt k.bits a&&&BitVec.ofInt k.bits b).toNat)))else none
  |.xor=>if k=k' then some (.c (.int k (k.wrap (BitVec.ofInt k.bits a^^^BitVec.ofInt k.bits b).toNat)))else none
  |_=>none
 |.c (.str a),.c (.str b)=>
  match op with
  |.add=>if a.length+b.length<=9223372036854775807 then some (.c (.str (a++b)))else none
  |.eql=>some (.c (.bool (a==b)))
  |.neq=>some (.c (.bool (a !=b)))
  |.lss=>some (.c (.bool (jb6 a b)))
  |.leq=>some (.c (.bool (jb6 a b||a==b)))
  |.gtr=>some (.c (.bool (!(jb6 a b||a==b))))
  |.geq=>some (.c (.bool (!(jb6 a b))))
  |_=>none
 |_,_=>none
def unA(op:UnOp):AV->Option AV
 |.c (.bool b)=>match op with|.not=>some (.c (.bool (!b)))|_=>none
 |.c (.int k n)=>match op with|.neg=>some (.c (.int k (k.wrap (0-n))))|_=>none
 |_=>none

def jb.at_(G:jb):Ce->Option (List Ce)
 |.fp cs=>some cs
 |.ptr id v i j=>
  match G.get id with
  |some (v',es)=>if v'=v then(es[i]?).bind λe=>if j<=e.length then some (e.drop j)else none else none
  |none=>none
 |_=>none
def jb.els(G:jb):Ce->Option (List (List Ce))
 |.fz es=>some es
 |.nils|.emp=>some []
 |.sl id v i n _=>
  match G.get id with
  |some (v',es)=>if v'=v/\i+n<=es.length then some ((es.drop i).take n)else none
  |none=>none
 |_=>none
def wbw(agg:Bool)(s:Nat)(cs:List Ce):Option AV:=
 if agg then(if s<=cs.length then some (.agg (cs.take s))else none)else match cs with|x::_=>some (.c x)|[]=>none
def zam(d:Nat):Option AV->Option Nat
 |none=>some d
 |some (.c (.int _ n))=>if 0<=n then some n.toNat else none
 |some _=>none
def evo(fr:Fr):Option Opd->Option (Option AV)
 |none=>some none
 |some x=>(x.ev fr).map some
def wfx(G:jb)(s:Nat)(x:Ce)(lo hi mx:Option AV):Option Ce:=
 match x with
 |.fz es=>
  match zam 0 lo,zam es.length hi with
  |some l,some h=>if l<=h/\h<=es.length/\(∀e∈es,e.length=s)then
   (match mx with
    |none=>some (.fz ((es.take h).drop l))
    |some m=>match zam 0 (some m)with
     |some m=>if h<=m/\m<=es.length then(if m=l then some .emp else some (.fz ((es.take h).drop l)))else none
     |none=>none)else none
  |_,_=>none
 |.sl id v i n c=>
  match zam 0 lo,zam n hi,zam c mx with
  |some l,some h,some m=>
   (match G.get id with
    |some (v',es)=>if v'=v/\(∀e∈es,e.length=s)/\l<=h/\h<=m/\m<=c then some (.sl id v (i+l) (h-l) (m-l))else none
    |none=>none)
  |_,_,_=>none
 |.nils=>
  match zam 0 lo,zam 0 hi,zam 0 mx with
  |some 0,some 0,some 0=>some .nils
  |_,_,_=>none
 |.emp=>
  match zam 0 lo,zam 0 hi,zam 0 mx with
  |some 0,some 0,some 0=>some .emp
  |_,_,_=>none
 |_=>none
def zgy(G:jb)(s:Nat)(x:Ce)(n:Int):Option Ce:=
 if 0<=n then
  match x with
  |.fz es=>match es[n.toNat]? with
   |some e=>if e.length=s then some (.fp e)else none
   |none=>none
  |.sl id v i m _=>if n.toNat<m then
   (match G.get id with
    |some (v',es)=>if v'=v then(match es[i+n.toNat]? with
     |some e=>if e.length=s then some (.ptr id v (i+n.toNat) 0)else none
     |none=>none)else none
    |none=>none)else none
  |_=>none
 else none
def appA(G:jb)(s bytes:Nat)(x:Ce)(ys:List (List Ce)):Option (Ce×jb):=
 if∀e∈ys,e.length=s then
  match x with
  |.nils|.emp=>
   if ys.length*bytes<=140737488355328 then some (.sl G.next 0 0 ys.length ys.length,G.new (0,ys))else none
  |.sl id v i n c=>
   match G.get id with
   |some (v',es)=>
    if v'=v/\i+c<=es.length/\n<=c/\(∀e∈es,e.length=s)then
     if n+ys.length<=c then some (.sl id v i (n+ys.length) c,G.put id (v,jh es (i+n) ys))
     else if(n+ys.length)*bytes<=140737488355328 then
      some (.sl id (v+1) 0 (n+ys.length) (n+ys.length),G.put id (v+1,(es.drop i).take n++ys))
     else none
    else none
   |none=>none
  |_=>none
 else none
def b2sA:List (List Ce)->Option (List UInt8)
 |[]=>some []
 |[.int .u8 n]::r=>(b2sA r).map λl=>UInt8.ofNat n.toNat::l
 |_=>none

def aop(o:AOp)(fr:Fr)(G:jb):Option (AV×jb):=
 match o with
 |.mv x=>(x.ev fr).map λv=>(v,G)
 |.pick c a b=>
  match c.ev fr with
  |some (.c (.bool t))=>(if t then a.ev fr else b.ev fr).map λv=>(v,G)
  |_=>none
 |.box fz x=>
  match(x.ev fr).bind AV.cells with
  |some cs=>if fz then some (.c (.fp cs),G)else some (.c (.ptr G.next 0 0 0),G.new (0,[cs]))
  |none=>none
 |.alloc z=>some (.c (.ptr G.next 0 0 0),G.new (0,[z]))
 |.build z ps=>(wgx fr z ps).map λcs=>(.agg cs,G)
 |.mksl fz s n z ps=>
  match wf9 fr s (List.replicate n z) ps with
  |some es=>if fz then some (.c (.fz es),G)else some (.c (.sl G.next 0 0 n n),G.new (0,es))
  |none=>none
 |.load agg s a=>
  match a.ev fr with
  |some (.c p)=>((G.at_ p).bind (wbw agg s)).map λv=>(v,G)
  |_=>none
 |.store s a x=>
  match a.ev fr,(x.ev fr).bind AV.cells with
  |some (.c (.ptr id v i j)),some cs=>
   match G.get id with
   |some (v',es)=>if v'=v then
    (match es[i]? with
     |some e=>if cs.length=s/\j+s<=e.length then some (.un,G.put id (v,es.set i (jh e j cs)))else none
     |none=>none)else none
   |none=>none
  |_,_=>none
 |.nilc x=>
  match x.ev fr with
  |some (.c (.fp cs))=>some (.c (.fp cs),G)
  |some (.c (.ptr id v i j))=>some (.c (.ptr id v i j),G)
  |some (.c (.fn f a b))=>some (.c (.fn f a b),G)
  |_=>none
 |.bin op x y=>
  match x.ev fr,y.ev fr with
  |some a,some b=>(binA op a b).map λv=>(v,G)
  |_,_=>none
 |.eq neg agg ks x y=>
  match x.ev fr,y.ev fr with
  |some (.agg cs),some (.agg ds)=>if agg then(eqKs ks cs ds).map λt=>(.c (.bool (t !=neg)),G)else none
  |some (.c c),some (.c d)=>if agg then none else(eqKs ks [c] [d]).map λt=>(.c (.bool (t !=neg)),G)
  |_,_=>none
 |.un op x=>((x.ev fr).bind (unA op)).map λv=>(v,G)
 |.conv k x=>
  match x.ev fr with
  |some (.c (.int _ n))=>some (.c (.int k (k.wrap n)),G)
  |_=>none
 |.b2s x=>
  match x.ev fr with
  |some (.c y)=>((G.els y).bind b2sA).map λl=>(.c (.str l),G)
  |_=>none
 |.mkfn f pre cap=>
  match evc fr pre,evc fr cap with
  |some p,some c=>some (.c (.fn f p c),G)
  |_,_=>none
 |.mkslice s bytes z l c=>
  match l.ev fr,c.ev fr with
  |some (.c (.int .i64 l)),some (.c (.int .i64 c))=>
   if 0<=l/\l<=c/\bytes*c<=140737488355328 then some (.c (.sl G.next 0 0 l.toNat c.toNat),G.new (0,List.replicate c.toNat z))else none
  |_,_=>none
 |.slice s x lo hi mx=>
  match x.ev fr,evo fr lo,evo fr hi,evo fr mx with
  |some (.c x),some lo,some hi,some mx=>(wfx G s x lo hi mx).map λy=>(.c y,G)
  |_,_,_,_=>none
 |.strsl x lo hi=>
  match x.ev fr,evo fr lo,evo fr hi with
  |some (.c (.str s)),some lo,some hi=>
   (match zam 0 lo,zam s.length hi with
    |some l,some h=>if l<=h/\h<=s.length then some (.c (.str ((s.take h).drop l)),G)else none
    |_,_=>none)
  |_,_,_=>none
 |.faddr off x=>
  match x.ev fr with
  |some (.c (.fp cs))=>if off<=cs.length then some (.c (.fp (cs.drop off)),G)else none
  |some (.c (.ptr id v i j))=>some (.c (.ptr id v i (j+off)),G)
  |_=>none
 |.fld agg off s x=>
  match x.ev fr with
  |some (.agg cs)=>if off<=cs.length then(wbw agg s (cs.drop off)).map λv=>(v,G)else none
  |_=>none
 |.iaddr s x i=>
  match x.ev fr,i.ev fr with
  |some (.c x),some (.c (.int _ n))=>(zgy G s x n).map λy=>(.c y,G)
  |_,_=>none
 |.iarr n s x i=>
  match x.ev fr,i.ev fr with
  |some (.c (.fp cs)),some (.c (.int _ j))=>if 0<=j/\j<n/\j.toNat*s<=cs.length then some (.c (.fp (cs.drop (j.toNat*s))),G)else none
  |some (.c (.ptr id v i k)),some (.c (.int _ j))=>if 0<=j/\j<n then some (.c (.ptr id v i (k+j.toNat*s)),G)else none
  |_,_=>none
 |.idx x i=>
  match x.ev fr,i.ev fr with
  |some (.c (.str s)),some (.c (.int _ n))=>if 0<=n then(s[n.toNat]?).map λb=>(.c (.int .u8 b.toNat),G)else none
  |_,_=>none
 |.idxa agg n s x i=>
  match x.ev fr,i.ev fr with
  |some (.agg cs),some (.c (.int _ j))=>if 0<=j/\j<n/\j.toNat*s<=cs.length then(wbw agg s (cs.drop (j.toNat*s))).map λv=>(v,G)else none
  |_,_=>none
 |.ext x i=>
  match x.ev fr with
  |some (.tup vs)=>(vs[i]?).map λv=>(v,G)
  |_=>none
 |.len str x=>
  match x.ev fr with
  |some (.c (.str s))=>if str then some (.c (.int .i64 s.length),G)else none
  |some (.c (.fz es))=>if str then none else some (.c (.int .i64 es.length),G)
  |some (.c (.sl _ _ _ n _))=>if str then none else some (.c (.int .i64 n),G)
  |some (.c .nils)|some (.c .emp)=>if str then none else some (.c (.int .i64 0),G)
  |_=>none
 |.app s bytes x y=>
  match x.ev fr,y.ev fr with
  |some (.c x),some (.c (.str l))=>if s=1 then(appA G s bytes x (l.map λb=>[.int .u8 b.toNat])).map λr=>(.c r.1,r.2)else none
  |some (.c x),some (.c y)=>((G.els y).bind (appA G s bytes x)).map λr=>(.c r.1,r.2)
  |_,_=>none
 |.clear z x=>
  match x.ev fr with
  |some (.c (.sl id v i n c))=>
   match G.get id with
   |some (v',es)=>if v'=v/\i+n<=es.length/\(∀e∈es,e.length=z.length)then some (.un,G.put id (v,jh es i (List.replicate n z)))else none
   |none=>none
  |some (.c .nils)|some (.c .emp)=>some (.un,G)
  |_=>none
 |.mm mx x y=>
  match x.ev fr,y.ev fr with
  |some (.c (.int k a)),some (.c (.int k' b))=>some (.c (.int k (if mx then(if b>a then b else a)else(if b<a then b else a))),G)
  |_,_=>none
 |.copy s x y=>
  match x.ev fr,y.ev fr with
  |some (.c (.sl id v i n c)),some (.c y)=>
   match G.get id,G.els y with
   |some (v',es),some ys=>if v'=v/\i+n<=es.length/\(∀e∈es,e.length=s)/\(∀e∈ys,e.length=s)/\ys.length<=n then some (.c (.int .i64 ys.length),G.put id (v,jh es i ys))else none
   |_,_=>none
  |_,_=>none
 |.cap x=>
  match x.ev fr with
  |some (.c .nils)=>some (.c (.int .i64 0),G)
  |_=>none
 |.appz s bytes z x n=>
  match x.ev fr,n.ev fr with
  |some (.c .nils),some (.c (.int .i64 n))=>if 0<n/\n.toNat*bytes<=140737488355328 then some (.c (.sl G.next 0 0 n.toNat n.toNat),G.new (0,List.replicate n.toNat z))else none
  |_,_=>none
 |.stuck=>none

end Go.Proofs.YtedaadaaibofaaaGreat.Am
namespace Go.Proofs.YtedaadaaibofaaaGreat.Am
open Go.RowKit

def Mof(μ:Nat->Nat->Loc)(G:jb)(b:Nat):Prop:=∃id v es,G.get id=some (v,es)/\es≠[]/\(μ id v).b=b

variable {C:Cx}
theorem Rp.one'{x:Ce}{v:Value}(h:Rp C x v):v.oneCell'=true:=by
 have:=h.one
 cases v<;>first|rfl|exact absurd rfl (this.1 _)|exact absurd rfl (this.2 _)

def flat(n s:Nat)(vs:Nat->Nat->Value):List Value:=(List.range (n*s)).map λk=>vs (k/s) (k%s)
theorem za5(n s:Nat)(vs:Nat->Nat->Value):(flat n s vs).length=n*s:=by simp[flat]
theorem jbk{n s i j:Nat}(hi:i<n)(hj:j<s):i*s+j<n*s:=by
 have:(i+1)*s<=n*s:=yapq _ hi;rw[yaxq]at this;omega
theorem zig(n s:Nat)(vs:Nat->Nat->Value){i j:Nat}(hi:i<n)(hj:j<s):(flat n s vs)[i*s+j]?=some (vs i j):=by
 have h:=jbk hi hj;have hs:0<s:=O;simp only[flat,List.getElem?_map,List.getElem?_range h,Option.map_some];have h1:(i*s+j)/s=i:=by rw[Nat.mul_comm,Nat.mul_add_div hs,Nat.div_eq_of_lt hj,Nat.add_zero]
 have h2:(i*s+j)%s=j:=by rw[Nat.mul_comm,Nat.mul_add_mod,Nat.mod_eq_of_lt hj]
 rw[h1,h2]
theorem jer{n s:Nat}{vs:Nat->Nat->Value}{k:Nat}{u:Value}(h:(flat n s vs)[k]?=some u):k/s<n/\k%s<s/\k=k/s*s+k%s/\u=vs (k/s) (k%s):=by
 have hk:k<n*s:=by have:=(List.getElem?_eq_some_iff.1 h).1;rwa [za5]at this
 have hs:0<s:=by
  rcases ybd s with h0|h0
  ·subst h0;simp at hk
  ·exact h0
 refine⟨Nat.div_lt_of_lt_mul (by rw[Nat.mul_comm];exact hk),Nat.mod_lt _ hs,(Nat.div_add_mod' k s).symm, ?_⟩;simp only[flat,List.getElem?_map,List.getElem?_range hk,Option.map_some]at h;injection h with h;exact h.symm

variable {G:jb}
theorem Rl.fresh(hR:Rl C G)(es:List (List Ce))(s b:Nat)(w':World)
 (os:w'.os=C.w.os) (tape:w'.tape=C.w.tape) (output:w'.output=C.w.output) (size:C.w.heap.size<=w'.heap.size) (keep:∀b,b<C.w.heap.size->w'.heap[b]?=C.w.heap[b]?)
 (hs:∀i (hi:i<es.length),es[i].length=s)
 (blk:es≠[]->C.w.heap.size<=b/\∃cs t,w'.heap[b]?=some (.cells cs t (0,0))/\es.length*s<=cs.size/\∀i j (hi:i<es.length) (hj:j<es[i].length),∃u,cs[i*s+j]?=some u/\Rp C es[i][j] u):
 ∃D,D.w=w'/\Rl D (G.new (0,es))/\C.Le D/\D.F G.next 0/\D.μ G.next 0=⟨b,s,0,es.isEmpty⟩:=by
 let μ':Nat->Nat->Loc:=λid v=>if id=G.next/\v=0 then⟨b,s,0,es.isEmpty⟩else C.μ id v
 have hμn:μ' G.next 0=⟨b,s,0,es.isEmpty⟩:=by simp[μ']
 have hμo:∀id v,id≠G.next->μ' id v=C.μ id v:=λid v h=>by simp[μ',h]
 let D:Cx:=⟨μ',λid v=>C.F id v\/(id=G.next/\v=0),Mof μ' (G.new (0,es)),w'⟩
 have old:∀{id v es'},G.get id=some (v,es')->id≠G.next:=λ{id v es'} h e=>by
  have:=hR.F id v (hR.live id v es' h).1;omega
 have get_new:(G.new (0,es)).get G.next=some (0,es):=by simp[jb.new]
 have get_old:∀id,id≠G.next->(G.new (0,es)).get id=G.get id:=λid h=>by simp[jb.new,h]
 have hle:C.Le D:=by
  refine⟨λid v hF=>⟨.inl hF, ?_⟩,os,tape,output,size,λb' hb' _=>keep b' hb',λb' cs t hc=>?_,λb' hb' hm=>?_⟩
  ·have:=hR.F id v hF;exact hμo id v O
  ·have hb':b'<C.w.heap.size:=lt_of_block hc;exact⟨cs,by rw[keep b' hb'];exact hc,rfl⟩
  ·obtain⟨id,v,es',hg,hne,hb⟩:=hm;by_cases e:id=G.next
   ·subst e;rw[get_new]at hg;injection hg with hg;injection hg with h1 h2;subst h1 h2;have:=(blk hne).1;rw[hμn]at hb;simp at hb;omega
   ·rw[get_old id e]at hg;rw[hμo id v e]at hb;exact(hR.M b').2 ⟨id,v,es',hg,hne,hb⟩
 refine⟨D,rfl,⟨λid v hF=>?_,λid v es' hg=>?_,λb=>Iff.rfl,λid v es1 id' v' es2 h1 n1 h2 n2 hb=>?_,λid v es' hg hne=>?_⟩,hle,.inr ⟨rfl,rfl⟩,hμn⟩
 ·show id<G.next+1;rcases hF with hF|⟨rfl,_⟩
  ·have:=hR.F id v hF;omega
  ·omega
 ·by_cases e:id=G.next
  ·subst e;rw[get_new]at hg;injection hg with hg;injection hg with h1 h2;subst h1 h2;refine⟨.inr ⟨rfl,rfl⟩,λv' hv'=>?_, ?_⟩
   ·rcases hv' with h|⟨_,h⟩
    ·have:=hR.F _ _ h;omega
    ·omega
   ·show(μ' G.next 0).virt=true↔es=[];rw[hμn];simp
  ·rw[get_old id e]at hg;obtain⟨a1,a2,a3⟩:=hR.live id v es' hg;refine⟨.inl a1,λv' hv'=>?_, ?_⟩
   ·rcases hv' with h|⟨h,_⟩
    ·exact a2 v' h
    ·exact absurd h e
   ·show(μ' id v).virt=true↔_;rw[hμo id v e];exact a3
 ·have key:∀id v es',(G.new (0,es)).get id=some (v,es')->es'≠[]->id≠G.next->G.get id=some (v,es')/\(C.μ id v).b<C.w.heap.size/\(μ' id v).b=(C.μ id v).b:=by
   intro id v es' hg hne e;rw[get_old id e]at hg;obtain⟨cs,t,hb,_⟩:=hR.blk id v es' hg hne;exact⟨hg,lt_of_block hb,by rw[hμo id v e]⟩
  have keyn:∀v es',(G.new (0,es)).get G.next=some (v,es')->es'≠[]->C.w.heap.size<=(μ' G.next v).b:=by
   intro v es' hg hne;rw[get_new]at hg;injection hg with hg;injection hg with h1 h2;subst h1 h2;have:=(blk hne).1;rw[hμn];exact this
  replace hb:(μ' id v).b=(μ' id' v').b:=hb;by_cases e1:id=G.next
  ·by_cases e2:id'=G.next
   ·rw[e1,e2]
   ·subst e1;have a:=keyn v es1 h1 n1;obtain⟨_,c,d⟩:=key id' v' es2 h2 n2 e2;omega
  ·obtain⟨a,c,d⟩:=key id v es1 h1 n1 e1;by_cases e2:id'=G.next
   ·subst e2;have a':=keyn v' es2 h2 n2;omega
   ·obtain⟨a',c',d'⟩:=key id' v' es2 h2 n2 e2;exact hR.inj id v es1 id' v' es2 a n1 a' n2 O
 ·by_cases e:id=G.next
  ·subst e;rw[get_new]at hg;injection hg with hg;injection hg with h1 h2;subst h1 h2;obtain⟨_,cs,t,hb,hz,hc⟩:=blk hne
   show∃(cs:Array Value) (t:TypeId),w'.heap[(μ' G.next 0).b]?=_/\(μ' G.next 0).base+es.length*(μ' G.next 0).s<=cs.size/\(∀i (hi:i<es.length),es[i].length=(μ' G.next 0).s)/\
    ∀i j (hi:i<es.length) (hj:j<es[i].length),∃u,cs[(μ' G.next 0).base+(i*(μ' G.next 0).s+j)]?=some u/\Rp D es[i][j] u
   rw[hμn];refine⟨cs,t,hb,by simpa using hz,hs,λi j hi hj=>?_⟩;obtain⟨u,h1,h2⟩:=hc i j hi hj;exact⟨u,by simpa using h1,h2.mono hle⟩
  ·rw[get_old id e]at hg;obtain⟨cs,t,hb,hz,hl,hc⟩:=hR.blk id v es' hg hne
   show∃(cs:Array Value) (t:TypeId),w'.heap[(μ' id v).b]?=_/\(μ' id v).base+es'.length*(μ' id v).s<=cs.size/\(∀i (hi:i<es'.length),es'[i].length=(μ' id v).s)/\
    ∀i j (hi:i<es'.length) (hj:j<es'[i].length),∃u,cs[(μ' id v).base+(i*(μ' id v).s+j)]?=some u/\Rp D es'[i][j] u
   rw[hμo id v e];refine⟨cs,t,by rw[keep _ (lt_of_block hb)];exact hb,hz,hl,λi j hi hj=>?_⟩;obtain⟨u,h1,h2⟩:=hc i j hi hj;exact⟨u,h1,h2.mono hle⟩

theorem Rl.turned(hR:Rl C G){id v:Nat}{es:List (List Ce)}(hg:G.get id=some (v,es))(hne:es≠[])(v1:Nat)(es1:List (List Ce))(l:Loc)(w':World)(cs1:Array Value)(t:TypeId)
 (hv:v1=v/\l=C.μ id v\/v1=v+1) (hlv:l.virt=false) (hn1:es1≠[])
 (os:w'.os=C.w.os) (tape:w'.tape=C.w.tape) (output:w'.output=C.w.output) (size:C.w.heap.size<=w'.heap.size)
 (hlb:l.b=(C.μ id v).b\/C.w.heap.size<=l.b)
 (keep:∀b,b<C.w.heap.size->b≠(C.μ id v).b->w'.heap[b]?=C.w.heap[b]?)
 (shp:∀(cs:Array Value) (t:TypeId),C.w.heap[(C.μ id v).b]?=some (.cells cs t (0,0))->∃cs',w'.heap[(C.μ id v).b]?=some (.cells cs' t (0,0))/\cs'.size=cs.size)
 (blk:w'.heap[l.b]?=some (.cells cs1 t (0,0))) (hz:l.base+es1.length*l.s<=cs1.size)
 (hs:∀i (hi:i<es1.length),es1[i].length=l.s)
 (hc:∀i j (hi:i<es1.length) (hj:j<es1[i].length),∃u,cs1[l.base+(i*l.s+j)]?=some u/\Rp C es1[i][j] u):
 ∃D,D.w=w'/\Rl D (G.put id (v1,es1))/\C.Le D/\D.F id v1/\D.μ id v1=l:=by
 obtain⟨lF,lV,lE⟩:=hR.live id v es hg
 let μ':Nat->Nat->Loc:=λi u=>if i=id/\u=v1 then l else C.μ i u
 have hμn:μ' id v1=l:=by simp[μ']
 have hμo:∀i u,i≠id->μ' i u=C.μ i u:=λi u h=>by simp[μ',h]
 have hμF:∀i u,C.F i u->μ' i u=C.μ i u:=λi u hF=>by
  by_cases e:i=id/\u=v1
  ·obtain⟨rfl,rfl⟩:=e;rcases hv with⟨h1,h2⟩|h1
   ·rw[hμn,h2,h1]
   ·have:=lV _ hF;omega
  ·simp[μ',e]
 let D:Cx:=⟨μ',λi u=>C.F i u\/(i=id/\u=v1),Mof μ' (G.put id (v1,es1)),w'⟩
 have get_new:(G.put id (v1,es1)).get id=some (v1,es1):=by simp[jb.put]
 have get_old:∀i,i≠id->(G.put id (v1,es1)).get i=G.get i:=λi h=>by simp[jb.put,h]
 obtain⟨cs0,t0,hb0,hz0,hl0,hc0⟩:=hR.blk id v es hg hne;have hMold:C.M (C.μ id v).b:=(hR.M _).2 ⟨id,v,es,hg,hne,rfl⟩;have hle:C.Le D:=by
  refine⟨λi u hF=>⟨.inl hF,hμF i u hF⟩,os,tape,output,size,λb' hb' hM=>keep b' hb' (λe=>hM (e▸hMold)),λb' cs t hc=>?_,λb' hb' hm=>?_⟩
  ·by_cases e:b'=(C.μ id v).b
   ·subst e;exact shp cs t hc
   ·exact⟨cs,by rw[keep b' (lt_of_block hc) e];exact hc,rfl⟩
  ·obtain⟨i,u,es',hg',hne',hb⟩:=hm;by_cases e:i=id
   ·subst e;rw[get_new]at hg';injection hg' with hg';injection hg' with h1 h2;subst h1 h2;rw[hμn]at hb;rcases hlb with h|h
    ·rw[<-hb,h];exact hMold
    ·omega
   ·rw[get_old i e]at hg';rw[hμo i u e]at hb;exact(hR.M b').2 ⟨i,u,es',hg',hne',hb⟩
 refine⟨D,rfl,⟨λi u hF=>?_,λi u es' hg'=>?_,λb=>Iff.rfl,λi u es1' i' u' es2 h1 n1 h2 n2 hb=>?_,λi u es' hg' hne'=>?_⟩,hle,.inr ⟨rfl,rfl⟩,hμn⟩
 ·show i<G.next;rcases hF with hF|⟨rfl,_⟩
  ·exact hR.F i u hF
  ·exact hR.F _ _ lF
 ·by_cases e:i=id
  ·subst e;rw[get_new]at hg';injection hg' with hg';injection hg' with h1 h2;subst h1 h2;refine⟨.inr ⟨rfl,rfl⟩,λv' hv'=>?_, ?_⟩
   ·rcases hv' with h|⟨_,h⟩
    ·have:=lV _ h;rcases hv with⟨h1,_⟩|h1<;>omega
    ·omega
   ·show(μ' i v1).virt=true↔es1=[];rw[hμn,hlv];simp[hn1]
  ·rw[get_old i e]at hg';obtain⟨a1,a2,a3⟩:=hR.live i u es' hg';refine⟨.inl a1,λv' hv'=>?_, ?_⟩
   ·rcases hv' with h|⟨h,_⟩
    ·exact a2 v' h
    ·exact absurd h e
   ·show(μ' i u).virt=true↔_;rw[hμo i u e];exact a3
 ·have key:∀i u es',(G.put id (v1,es1)).get i=some (u,es')->es'≠[]->i≠id->G.get i=some (u,es')/\(C.μ i u).b<C.w.heap.size/\(μ' i u).b=(C.μ i u).b/\(C.μ i u).b≠(C.μ id v).b:=by
   intro i u es' hg' hne' e;rw[get_old i e]at hg';obtain⟨cs,t,hb,_⟩:=hR.blk i u es' hg' hne';exact⟨hg',lt_of_block hb,by rw[hμo i u e],λe'=>e (hR.inj i u es' id v es hg' hne' hg hne e')⟩
  have keyn:∀u es',(G.put id (v1,es1)).get id=some (u,es')->(μ' id u).b=l.b:=by
   intro u es' hg';rw[get_new]at hg';injection hg' with hg';injection hg' with h1 h2;subst h1 h2;rw[hμn]
  replace hb:(μ' i u).b=(μ' i' u').b:=hb;by_cases e1:i=id
  ·by_cases e2:i'=id
   ·rw[e1,e2]
   ·subst e1;have a:=keyn u es1' h1;obtain⟨_,c,d,f⟩:=key i' u' es2 h2 n2 e2;rcases hlb with h|h<;>omega
  ·obtain⟨a,c,d,f⟩:=key i u es1' h1 n1 e1;by_cases e2:i'=id
   ·subst e2;have a':=keyn u' es2 h2;rcases hlb with h|h<;>omega
   ·obtain⟨a',c',d',_⟩:=key i' u' es2 h2 n2 e2;exact hR.inj i u es1' i' u' es2 a n1 a' n2 O
 ·by_cases e:i=id
  ·subst e;rw[get_new]at hg';injection hg' with hg';injection hg' with h1 h2;subst h1 h2
   show∃(cs:Array Value) (t:TypeId),w'.heap[(μ' i v1).b]?=_/\(μ' i v1).base+es1.length*(μ' i v1).s<=cs.size/\(∀k (hi:k<es1.length),es1[k].length=(μ' i v1).s)/\
    ∀k j (hi:k<es1.length) (hj:j<es1[k].length),∃u,cs[(μ' i v1).base+(k*(μ' i v1).s+j)]?=some u/\Rp D es1[k][j] u
   rw[hμn];refine⟨cs1,t,blk,hz,hs,λk j hi hj=>?_⟩;obtain⟨u,h1,h2⟩:=hc k j hi hj;exact⟨u,h1,h2.mono hle⟩
  ·rw[get_old i e]at hg';obtain⟨cs,t,hb,hz,hl,hc⟩:=hR.blk i u es' hg' hne';have hneq:(C.μ i u).b≠(C.μ id v).b:=λe'=>e (hR.inj i u es' id v es hg' hne' hg hne e')
   show∃(cs:Array Value) (t:TypeId),w'.heap[(μ' i u).b]?=_/\(μ' i u).base+es'.length*(μ' i u).s<=cs.size/\(∀k (hi:k<es'.length),es'[k].length=(μ' i u).s)/\
    ∀k j (hi:k<es'.length) (hj:j<es'[k].length),∃x,cs[(μ' i u).base+(k*(μ' i u).s+j)]?=some x/\Rp D es'[k][j] x
   rw[hμo i u e];refine⟨cs,t,by rw[keep _ (lt_of_block hb) hneq];exact hb,hz,hl,λk j hi hj=>?_⟩;obtain⟨x,h1,h2⟩:=hc k j hi hj;exact⟨x,h1,h2.mono hle⟩

theorem Rl.filled(hR:Rl C G){id v:Nat}(hg:G.get id=some (v,[]))(es1:List (List Ce))(s b:Nat)(w':World)(cs1:Array Value)(t:TypeId)(hn1:es1≠[])
 (os:w'.os=C.w.os) (tape:w'.tape=C.w.tape) (output:w'.output=C.w.output) (size:C.w.heap.size<=w'.heap.size) (hlb:C.w.heap.size<=b)
 (keep:∀b,b<C.w.heap.size->w'.heap[b]?=C.w.heap[b]?)
 (blk:w'.heap[b]?=some (.cells cs1 t (0,0))) (hz:es1.length*s<=cs1.size)
 (hs:∀i (hi:i<es1.length),es1[i].length=s)
 (hc:∀i j (hi:i<es1.length) (hj:j<es1[i].length),∃u,cs1[i*s+j]?=some u/\Rp C es1[i][j] u):
 ∃D,D.w=w'/\Rl D (G.put id (v+1,es1))/\C.Le D/\D.F id (v+1)/\D.μ id (v+1)=⟨b,s,0,false⟩:=by
 obtain⟨lF,lV,lE⟩:=hR.live id v [] hg
 let l:Loc:=⟨b,s,0,false⟩
 let μ':Nat->Nat->Loc:=λi u=>if i=id/\u=v+1 then l else C.μ i u
 have hμn:μ' id (v+1)=l:=by simp[μ']
 have hμo:∀i u,i≠id->μ' i u=C.μ i u:=λi u h=>by simp[μ',h]
 have hμF:∀i u,C.F i u->μ' i u=C.μ i u:=λi u hF=>by
  by_cases e:i=id/\u=v+1
  ·obtain⟨rfl,rfl⟩:=e;have:=lV _ hF;omega
  ·simp[μ',e]
 let D:Cx:=⟨μ',λi u=>C.F i u\/(i=id/\u=v+1),Mof μ' (G.put id (v+1,es1)),w'⟩
 have get_new:(G.put id (v+1,es1)).get id=some (v+1,es1):=by simp[jb.put]
 have get_old:∀i,i≠id->(G.put id (v+1,es1)).get i=G.get i:=λi h=>by simp[jb.put,h]
 have hle:C.Le D:=by
  refine⟨λi u hF=>⟨.inl hF,hμF i u hF⟩,os,tape,output,size,λb' hb' _=>keep b' hb',λb' cs t hc=>⟨cs,by rw[keep b' (lt_of_block hc)];exact hc,rfl⟩,λb' hb' hm=>?_⟩;obtain⟨i,u,es',hg',hne',hb⟩:=hm;by_cases e:i=id
  ·subst e;rw[get_new]at hg';injection hg' with hg';injection hg' with h1 h2;subst h1 h2;rw[hμn]at hb;have:b=b':=hb;omega
  ·rw[get_old i e]at hg';rw[hμo i u e]at hb;exact(hR.M b').2 ⟨i,u,es',hg',hne',hb⟩
 refine⟨D,rfl,⟨λi u hF=>?_,λi u es' hg'=>?_,λb=>Iff.rfl,λi u es1' i' u' es2 h1 n1 h2 n2 hb=>?_,λi u es' hg' hne'=>?_⟩,hle,.inr ⟨rfl,rfl⟩,hμn⟩
 ·show i<G.next;rcases hF with hF|⟨rfl,_⟩
  ·exact hR.F i u hF
  ·exact hR.F _ _ lF
 ·by_cases e:i=id
  ·subst e;rw[get_new]at hg';injection hg' with hg';injection hg' with h1 h2;subst h1 h2;refine⟨.inr ⟨rfl,rfl⟩,λv' hv'=>?_, ?_⟩
   ·rcases hv' with h|⟨_,h⟩
    ·have:=lV _ h;omega
    ·omega
   ·show(μ' i (v+1)).virt=true↔es1=[];rw[hμn];simp[l,hn1]
  ·rw[get_old i e]at hg';obtain⟨a1,a2,a3⟩:=hR.live i u es' hg';refine⟨.inl a1,λv' hv'=>?_, ?_⟩
   ·rcases hv' with h|⟨h,_⟩
    ·exact a2 v' h
    ·exact absurd h e
   ·show(μ' i u).virt=true↔_;rw[hμo i u e];exact a3
 ·have key:∀i u es',(G.put id (v+1,es1)).get i=some (u,es')->es'≠[]->i≠id->G.get i=some (u,es')/\(C.μ i u).b<C.w.heap.size/\(μ' i u).b=(C.μ i u).b:=by
   intro i u es' hg' hne' e;rw[get_old i e]at hg';obtain⟨cs,t,hb,_⟩:=hR.blk i u es' hg' hne';exact⟨hg',lt_of_block hb,by rw[hμo i u e]⟩
  have keyn:∀u es',(G.put id (v+1,es1)).get id=some (u,es')->(μ' id u).b=b:=by
   intro u es' hg';rw[get_new]at hg';injection hg' with hg';injection hg' with h1 h2;subst h1 h2;rw[hμn]
  replace hb:(μ' i u).b=(μ' i' u').b:=hb;by_cases e1:i=id
  ·by_cases e2:i'=id
   ·rw[e1,e2]
   ·subst e1;have a:=keyn u es1' h1;obtain⟨_,c,d⟩:=key i' u' es2 h2 n2 e2;omega
  ·obtain⟨a,c,d⟩:=key i u es1' h1 n1 e1;by_cases e2:i'=id
   ·subst e2;have a':=keyn u' es2 h2;omega
   ·obtain⟨a',c',d'⟩:=key i' u' es2 h2 n2 e2;exact hR.inj i u es1' i' u' es2 a n1 a' n2 O
 ·by_cases e:i=id
  ·subst e;rw[get_new]at hg';injection hg' with hg';injection hg' with h1 h2;subst h1 h2
   show∃(cs:Array Value) (t:TypeId),w'.heap[(μ' i (v+1)).b]?=_/\(μ' i (v+1)).base+es1.length*(μ' i (v+1)).s<=cs.size/\(∀k (hi:k<es1.length),es1[k].length=(μ' i (v+1)).s)/\
    ∀k j (hi:k<es1.length) (hj:j<es1[k].length),∃u,cs[(μ' i (v+1)).base+(k*(μ' i (v+1)).s+j)]?=some u/\Rp D es1[k][j] u
   rw[hμn];refine⟨cs1,t,blk,by simpa [l]using hz,hs,λk j hi hj=>?_⟩;obtain⟨u,h1,h2⟩:=hc k j hi hj;exact⟨u,by simpa [l]using h1,h2.mono hle⟩
  ·rw[get_old i e]at hg';obtain⟨cs,t,hb,hz,hl,hc⟩:=hR.blk i u es' hg' hne'
   show∃(cs:Array Value) (t:TypeId),w'.heap[(μ' i u).b]?=_/\(μ' i u).base+es'.length*(μ' i u).s<=cs.size/\(∀k (hi:k<es'.length),es'[k].length=(μ' i u).s)/\
    ∀k j (hi:k<es'.length) (hj:j<es'[k].length),∃x,cs[(μ' i u).base+(k*(μ' i u).s+j)]?=some x/\Rp D es'[k][j] x
   rw[hμo i u e];refine⟨cs,t,by rw[keep _ (lt_of_block hb)];exact hb,hz,hl,λk j hi hj=>?_⟩;obtain⟨x,h1,h2⟩:=hc k j hi hj;exact⟨x,h1,h2.mono hle⟩

end Go.Proofs.YtedaadaaibofaaaGreat.Am
namespace Go.Proofs.YtedaadaaibofaaaGreat.Am
open Go.RowKit

def OpOk(P:Program)(C:Cx)(a:Act)(o:Oper)(x:AV)(G':jb):Prop:=
 ∃D v,Rl D G'/\C.Le D/\RpV D x v/\((execOp a.eval o).run P C.w=.ok (.value v) D.w\/(v=undef/\(execOp a.eval o).run P C.w=.ok .skip D.w))
variable {P:Program}{C:Cx}{a:Act}{x:AV}{G:jb}{v:Value}
theorem OpOk.pure{o:Oper}(hR:Rl C G)(hx:RpV C x v)(h:(execOp a.eval o).run P C.w=.ok (.value v) C.w):OpOk P C a o x G:=
 ⟨C,v,hR,.refl C,hx,.inl h⟩

theorem zfy{x:Ce}(h:ceOf v=some x):Rp C x v:=by
 unfold ceOf at h
 split at h<;>first
  |(injection h with h;subst h;constructor;done)
  |(injection h with h;subst h;rename_i s;exact Rp.str s.data.toList)
  |(injection h with h;subst h;exact .any _ (λ_ e=>(by cases e)) (λ_ e=>(by cases e)))
  |cases h
theorem jam{C:Cx}:∀{vs:List Value} {xs:List Ce},whp vs=some xs->vs.length=xs.length/\∀i (hi:i<xs.length) (hv:i<vs.length),Rp C xs[i] vs[i]
 |[],xs,h=>by
  simp[whp]at h;subst h;exact⟨rfl,λi hi=>absurd hi gx⟩
 |v::vs,xs,h=>by
  simp only[whp,List.mapM_cons]at h
  cases h1:ceOf v with
  |none=>simp[h1]at h
  |some x=>
   cases h2:List.mapM ceOf vs with
   |none=>simp[h1,h2]at h
   |some ys=>
    simp[h1,h2]at h;subst h;obtain⟨hl,hr⟩:=jam (C:=C) (vs:=vs) (xs:=ys) h2;refine⟨by simp[hl],λi hi hv=>?_⟩
    cases i with
    |zero=>exact zfy h1
    |succ i=>exact hr i (by simpa using hi) (by simpa using hv)
theorem jz{nt:Nat}{fr:Fr}(hF:FrR C nt fr a){x:Operand}{y:Opd}(h:zh x=some y){v:AV}(hv:y.ev fr=some v):RpV C v (a.eval x):=by
 unfold zh at h;split at h
 ·injection h with h;subst h;exact(hF.slot _ _ hv).2
 ·rename_i cs;obtain⟨xs,hx,rfl⟩:=Option.map_eq_some_iff.1 h;simp only[Opd.ev]at hv;injection hv with hv;subst hv;obtain⟨hl,hr⟩:=jam (C:=C) hx;exact .agg (by simpa using hl) λi hi=>by
   have:=hr i hi (by rw[hl];exact hi);simpa using this
 ·rename_i u _;obtain⟨c,hc,rfl⟩:=Option.map_eq_some_iff.1 h;simp only[Opd.ev]at hv;injection hv with hv;subst hv;exact .c (zfy hc)
 ·injection h with h;subst h;simp only[Opd.ev]at hv;injection hv with hv;subst hv;exact .c (.fn _ [] [] #[] #[] rfl rfl (λi hi=>absurd hi gx) (λi hi=>absurd hi gx))
 ·cases h
theorem z7{nt:Nat}{fr:Fr}(hF:FrR C nt fr a){x:Operand}{y:Opd}(h:zh x=some y){v:Ce}(hv:y.ev fr=some (.c v)):Rp C v (a.eval x):=by
 have:=jz hF h hv
 cases this with
 |c h=>exact h

theorem jgy{C:Cx}{nt:Nat}{fr:Fr}{a:Act}(hF:FrR C nt fr a):∀{xs:List Operand} {ys:List Opd} {vs:List AV},xs.mapM zh=some ys->evs fr ys=some vs->xs.length=vs.length/\∀i (hx:i<xs.length) (hv:i<vs.length),RpV C vs[i] (a.eval xs[i])
 |[],ys,vs,h,h2=>by
  simp at h;subst h;simp[evs]at h2;subst h2;exact⟨rfl,λi hi=>absurd hi gx⟩
 |x::xs,ys,vs,h,h2=>by
  simp only[List.mapM_cons]at h
  cases h1:zh x with
  |none=>simp[h1]at h
  |some y=>
   cases h3:List.mapM zh xs with
   |none=>simp[h1,h3]at h
   |some zs=>
    simp[h1,h3]at h;subst h;simp only[evs]at h2;split at h2
    ·rename_i v vs' e1 e2;injection h2 with h2;subst h2;obtain⟨hl,hr⟩:=jgy hF h3 e2;refine⟨by simp[hl],λi hx hv=>?_⟩
     cases i with
     |zero=>exact jz hF h1 e1
     |succ i=>exact hr i (by simpa using hx) (by simpa using hv)
    ·cases h2
theorem wer{C:Cx}{nt:Nat}{fr:Fr}{a:Act}(hF:FrR C nt fr a):∀{xs:List Operand} {ys:List Opd} {vs:List Ce},xs.mapM zh=some ys->evc fr ys=some vs->xs.length=vs.length/\∀i (hx:i<xs.length) (hv:i<vs.length),Rp C vs[i] (a.eval xs[i])
 |[],ys,vs,h,h2=>by
  simp at h;subst h;simp[evc]at h2;subst h2;exact⟨rfl,λi hi=>absurd hi gx⟩
 |x::xs,ys,vs,h,h2=>by
  simp only[List.mapM_cons]at h
  cases h1:zh x with
  |none=>simp[h1]at h
  |some y=>
   cases h3:List.mapM zh xs with
   |none=>simp[h1,h3]at h
   |some zs=>
    simp[h1,h3]at h;subst h;simp only[evc]at h2;split at h2
    ·rename_i v vs' e1 e2;injection h2 with h2;subst h2;obtain⟨hl,hr⟩:=wer hF h3 e2;refine⟨by simp[hl],λi hx hv=>?_⟩
     cases i with
     |zero=>exact z7 hF h1 e1
     |succ i=>exact hr i (by simpa using hx) (by simpa using hv)
    ·cases h2

theorem wb6(h:RpV C x v){cs:List Ce}(hc:x.cells=some cs):v.cells.size=cs.length/\∀i (hi:i<cs.length) (hv:i<v.cells.size),Rp C cs[i] v.cells[i]:=by
 cases h with
 |c h=>
  simp only[AV.cells]at hc;injection hc with hc;subst hc;rename_i y;have e:=h.oneCells;refine⟨by rw[e];rfl,λi hi hv=>?_⟩;have:i=0:=by simp at hi;exact hi
  subst this;simpa [e]using h
 |agg hl h=>
  simp only[AV.cells]at hc;injection hc with hc;subst hc;exact⟨hl,λi hi hv=>h i hi⟩
 |tup=>simp[AV.cells]at hc
 |un=>simp[AV.cells]at hc

theorem za8(b o n:Nat):(⟨b,o,none⟩:Addr).add n=⟨b,o+n,none⟩:=by unfold Addr.add;split<;>simp_all

theorem jig(hR:Rl C G){p:Ce}{v:Value}(hp:Rp C p v){cs:List Ce}(h:G.at_ p=some cs):
 ∃b o,v=.pointer (some ⟨b,o,none⟩)/\∃vs:Nat->Value,∀j (hj:j<cs.length),C.w.cell? ⟨b,o+j,none⟩=some (vs j)/\Rp C cs[j] (vs j):=by
 cases hp with
 |fp cs' b o vs hl hM cell hh=>
  simp only[jb.at_]at h;injection h with h;subst h;exact⟨b,o,rfl,vs,λj hj=>⟨cell j hj,hh j hj⟩⟩
 |ptr id v i j hF hv=>
  simp only[jb.at_]at h;split at h
  ·rename_i v' es hg;split at h
   ·rename_i e;subst e;obtain⟨e,he,h2⟩:=Option.bind_eq_some_iff.1 h;split at h2
    ·rename_i hje;injection h2 with h2;subst h2;obtain⟨hi,rfl⟩:=List.getElem?_eq_some_iff.1 he;have hne:es≠[]:=by intro e;subst e;simp at hi
     obtain⟨cc,t,hb,hz,hl,hc⟩:=hR.blk id _ es hg hne;refine⟨_,_,rfl,λk=>cc.getD ((C.μ id v').base+(i*(C.μ id v').s+(j+k))) undef,λk hk=>?_⟩;simp only[List.length_drop]at hk;obtain⟨u,h3,h4⟩:=hc i (j+k) hi O;refine⟨?_, ?_⟩
     ·have:(C.μ id v').base+(i*(C.μ id v').s+j)+k=(C.μ id v').base+(i*(C.μ id v').s+(j+k)):=O;rw[this];simp[World.cell?,hb,h3]
     ·have:es[i][j+k]'O=(List.drop j es[i])[k]'gq:=gx;rw[<-this];simpa [h3]using h4
    ·cases h2
   ·cases h
  ·cases h
 |_=>simp[jb.at_]at h

theorem zdi(hR:Rl C G){y:Ce}{v:Value}(hy:Rp C y v){ys:List (List Ce)}(h:G.els y=some ys):
 ∃a cap,v=.slice a ys.length cap/\ys.length<=cap/\(ys=[]\/∃b o s,a=some ⟨b,o,none⟩/\(∀i (hi:i<ys.length),ys[i].length=s)/\
  ∃vs:Nat->Nat->Value,∀i j (hi:i<ys.length) (hj:j<ys[i].length),C.w.cell? ⟨b,o+(i*s+j),none⟩=some (vs i j)/\Rp C ys[i][j] (vs i j)):=by
 cases hy with
 |nils=>simp[jb.els]at h;subst h;exact⟨none,0,rfl,gx,.inl rfl⟩
 |emp a=>simp[jb.els]at h;subst h;exact⟨a,0,rfl,gx,.inl rfl⟩
 |fz0 a cap=>simp[jb.els]at h;subst h;exact⟨a,cap,rfl,gx,.inl rfl⟩
 |fz es b o cap s vs hl hM hc hs cell hh=>
  simp[jb.els]at h;subst h;exact⟨_,cap,rfl,hc,.inr ⟨b,o,s,rfl,hs,vs,λi j hi hj=>⟨cell i j hi (by rw[<-hs i hi];exact hj),hh i j hi hj⟩⟩⟩
 |sl0 id v i a hF=>
  simp only[jb.els]at h;split at h
  ·split at h
   ·injection h with h;simp at h;subst h;exact⟨a,0,rfl,gx,.inl rfl⟩
   ·cases h
  ·cases h
 |sl id v i n c cap hF hn hc hv hk=>
  simp only[jb.els]at h;split at h
  ·rename_i v' es hg;split at h
   ·rename_i e;obtain⟨rfl,hle⟩:=e;injection h with h;have hlen:ys.length=n:=by rw[<-h];simp;omega
    refine⟨_,cap,by rw[hlen],O, ?_⟩;by_cases hn0:n=0
    ·left;exact yan O
    ·right;have hne:es≠[]:=by intro e;subst e;simp at hle;omega
     obtain⟨cc,t,hb,hz,hl,hcc⟩:=hR.blk id _ es hg hne;have hyi:∀k (hk:k<ys.length),ys[k]=es[i+k]'O:=by
      intro k hk;subst h;simp
     refine⟨_,_,(C.μ id v').s,rfl,λk hk=>by rw[hyi k hk];exact hl _ _,λk j=>cc.getD ((C.μ id v').base+((i+k)*(C.μ id v').s+j)) undef,λk j hk hj=>?_⟩;have hj':j<(es[i+k]'O).length:=by rw[<-hyi k hk];exact hj
     obtain⟨u,h3,h4⟩:=hcc (i+k) j O hj';refine⟨?_, ?_⟩
     ·have:(C.μ id v').base+i*(C.μ id v').s+(k*(C.μ id v').s+j)=(C.μ id v').base+((i+k)*(C.μ id v').s+j):=by rw[yaxq];omega
      rw[this];simp[World.cell?,hb,h3]
     ·have:ys[k][j]=(es[i+k]'O)[j]:=by simp[hyi k hk]
      rw[this];simpa [h3]using h4
   ·cases h
  ·cases h
 |_=>simp[jb.els]at h

variable {t:TypeId}{s:Nat}
theorem w9(h:ww P t=some s)(w:World):(sizeOf t).run P w=.ok s w:=by
 unfold ww at h;obtain⟨i,hi,rfl⟩:=Option.map_eq_some_iff.1 h;simp[sizeOf,typeInfo,hi]
variable {g:Bool}
theorem jbz(h:jbw P t=some g)(w:World):(isAgg t).run P w=.ok g w:=by
 unfold jbw at h;split at h
 ·rename_i hu;injection h with h;subst h;simp[isAgg,run_underlying hu]
 ·rename_i hu;injection h with h;subst h;simp[isAgg,run_underlying hu]
 ·rename_i d hd1 hd2 hu;injection h with h;subst h;simp only[isAgg,Sem.run_bind,run_underlying hu,Result.andThen_ok]
  rfl
 ·cases h
theorem zb7{z:List Ce}(h:wap P t=some z):∃v,(∀w,(zeroValue t).run P w=.ok v w)/\whp v.cells.toList=some z:=by
 unfold wap at h;obtain⟨v,hv,hz⟩:=Option.bind_eq_some_iff.1 h;obtain⟨i,hi,hv'⟩:=Option.bind_eq_some_iff.1 hv;exact⟨v,λw=>by simp[zeroValue,typeInfo,hi,hv'],hz⟩

theorem zes(hg:jbw P t=some g)(hs:ww P t=some s){b o:Nat}{cs:List Ce}{vs:Nat->Value}
 (hc:∀j (hj:j<cs.length),C.w.cell? ⟨b,o+j,none⟩=some (vs j)/\Rp C cs[j] (vs j)) {x:AV} (h:wbw g s cs=some x):
 ∃v,(loadVar t ⟨b,o,none⟩).run P C.w=.ok v C.w/\RpV C x v:=by
 unfold wbw at h;split at h
 ·rename_i e;subst e;split at h
  ·rename_i hle;injection h with h;subst h;have hl:=run_loadCells (P:=P) C.w ⟨b,o,none⟩ s vs (λj hj=>by rw[za8];exact(hc j O).1);refine⟨.agg ((List.range s).map vs).toArray,by simp[loadVar,jbz hg,w9 hs,hl],.agg gq λi hi=>?_⟩;simp only[List.length_take]at hi;simpa using(hc i O).2
  ·cases h
 ·rename_i e;have e':g=false:=by simpa using e
  subst e';split at h
  ·rename_i y rest;injection h with h;subst h;obtain⟨h1,h2⟩:=hc 0 gx;refine⟨vs 0, ?_,.c (by simpa using h2)⟩;simp only[Nat.add_zero]at h1;simp[loadVar,jbz hg,h1]
  ·cases h
theorem wgy(hg:jbw P t=some g)(hs:ww P t=some s){off:Nat}{cs:List Ce}{vs:Array Value}(hl:vs.size=cs.length)
 (hc:∀i (hi:i<cs.length),Rp C cs[i] (vs[i]'O)) (ho:off<=cs.length) {x:AV} (h:wbw g s (cs.drop off)=some x) (w:World):
 ∃v,(part t vs off).run P w=.ok v w/\RpV C x v:=by
 unfold wbw at h;split at h
 ·rename_i e;subst e;split at h
  ·rename_i hle;simp only[List.length_drop]at hle;injection h with h;subst h;refine⟨.agg (vs.extract off (off+s)),by simp[part,jbz hg,w9 hs],.agg gq λi hi=>?_⟩;simp only[List.length_take,List.length_drop]at hi;have:=hc (off+i) O;simpa using this
  ·cases h
 ·rename_i e;have e':g=false:=by simpa using e
  subst e';split at h
  ·rename_i y rest hd;injection h with h;subst h;have hlt:off<cs.length:=by
    have:=congrArg List.length hd;simp at this;omega
   have hy:cs[off]=y:=by
    have h0:(cs.drop off)[0]?=some y:=by rw[hd];rfl
    simp[hlt]at h0;exact h0
   refine⟨vs[off]'O,by simp[part,jbz hg,hl,hlt],.c ?_⟩;rw[<-hy];exact hc off hlt
  ·cases h

end Go.Proofs.YtedaadaaibofaaaGreat.Am
namespace Go.Proofs.YtedaadaaibofaaaGreat.Am
open Go.RowKit

section
variable {P:Program}{nt:Nat}{C:Cx}{G G':jb}{fr:Fr}{a:Act}{o:Oper}{x:AV}

variable {y:Operand}{z:Opd}
theorem zlb(hop:o.op=.move y\/o.op=.assign y)(hy:zh y=some z)(h:aop (.mv z) fr G=some (x,G'))(hR:Rl C G)(hF:FrR C nt fr a):OpOk P C a o x G':=by
 simp only[aop,Option.map_eq_some_iff,Prod.mk.injEq]at h;obtain⟨v,hv,rfl,rfl⟩:=h;exact .pure hR (jz hF hy hv) (by rcases hop with h|h<;>simp[execOp,h])

theorem jku{c p q:Operand}{c' p' q':Opd}(hop:o.op=.pick c p q)(hc:zh c=some c')(hp:zh p=some p')(hq:zh q=some q')(h:aop (.pick c' p' q') fr G=some (x,G'))(hR:Rl C G)(hF:FrR C nt fr a):OpOk P C a o x G':=by
 simp only[aop]at h;split at h
 ·rename_i t ht;have h1:=z7 hF hc ht
  cases h1b:a.eval c<;>rw[h1b]at h1<;>cases h1;obtain⟨v,hv,h2⟩:=Option.map_eq_some_iff.1 h;injection h2 with h2 h3;subst h2 h3
  cases t with
  |true=>exact .pure hR (jz hF hp hv) (by simp[execOp,hop,h1b,asBool])
  |false=>exact .pure hR (jz hF hq (by simpa using hv)) (by simp[execOp,hop,h1b,asBool])
 ·cases h

theorem wku{t:TypeId}{g:Bool}{s:Nat}(hop:o.op=.load t y)(hg:jbw P t=some g)(hs:ww P t=some s)(hy:zh y=some z)(h:aop (.load g s z) fr G=some (x,G'))(hR:Rl C G)(hF:FrR C nt fr a):OpOk P C a o x G':=by
 simp only[aop]at h;split at h
 ·rename_i p hp;obtain⟨v,hv,h2⟩:=Option.map_eq_some_iff.1 h;injection h2 with h2 h3;subst h2 h3;obtain⟨cs,hcs,hv⟩:=Option.bind_eq_some_iff.1 hv;obtain⟨b,o',he,vs,hc⟩:=jig hR (z7 hF hy hp) hcs;obtain⟨u,hu,hx⟩:=zes hg hs hc hv;exact .pure hR hx (by simp[execOp,hop,Instr.loadAt,he,Instr.sureAddr,hu])
 ·cases h

theorem zkv(hop:o.op=.nilCheck y)(hy:zh y=some z)(h:aop (.nilc z) fr G=some (x,G'))(hR:Rl C G)(hF:FrR C nt fr a):OpOk P C a o x G':=by
 obtain⟨u,hu⟩:∃u,a.eval y=u:=⟨_,rfl⟩;simp only[aop]at h
 split at h<;>first
  |(rename_i hz
    injection h with h;injection h with h1 h2;subst h1 h2;have h1:=z7 hF hy hz;rw[hu]at h1;refine .pure (v:=u) hR (.c h1) ?_
    cases h1<;>simp[execOp,hop,hu]
    done)
  |cases h

def VOf(C:Cx)(g:Bool)(cs:List Ce)(u:Value):Prop:=
 if g then∃vs:Array Value,u=.agg vs/\∃(hl:vs.size=cs.length),∀i (hi:i<cs.length),Rp C cs[i] (vs[i]'O)else∃c,cs=[c]/\Rp C c u
theorem jip{k1 k2:List EK}:∀{cs ds:List Ce} {r:Bool},eqKs (k1++k2) cs ds=some r->k1.length<=cs.length/\k1.length<=ds.length/\
 ∃p q,eqKs k1 (cs.take k1.length) (ds.take k1.length)=some p/\eqKs k2 (cs.drop k1.length) (ds.drop k1.length)=some q/\r=(p&&q):=by
 induction k1 with
 |nil=>intro cs ds r h;exact⟨gx,gx,true,r,by simp[eqKs],by simpa using h,gx⟩
 |cons k k1 ih=>
  intro cs ds r h
  cases cs<;>cases ds<;>simp only[List.cons_append,eqKs]at h<;>try(cases h;done)
  split at h
  ·rename_i p0 q0 e1 e2;injection h with h;subst h;obtain⟨h1,h2,p',q',h3,h4,rfl⟩:=ih e2;exact⟨by simpa using h1,by simpa using h2,p0&&p',q',by simp only[List.length_cons,List.take_succ_cons,eqKs,e1,h3],by simpa using h4,by simp[Bool.and_assoc]⟩
  ·cases h
theorem jhq{ks:List EK}:∀{cs ds:List Ce} {r:Bool},eqKs ks cs ds=some r->cs.length=ks.length/\ds.length=ks.length:=by
 induction ks with
 |nil=>intro cs ds r h;cases cs<;>cases ds<;>simp[eqKs]at h;simp
 |cons k ks ih=>
  intro cs ds r h
  cases cs<;>cases ds<;>simp only[eqKs]at h<;>try(cases h;done)
  split at h
  ·rename_i e1 e2;obtain⟨h1,h2⟩:=ih e2;simp[h1,h2]
  ·cases h

theorem eqK1{t:TypeId}{k:EK}{c e:Ce}{b:Bool}{u v:Value}(d:Nat)(w:World)(h:eqKs [k] [c] [e]=some b)(hu:Rp C c u)(hv:Rp C e v)
 (hk:(k=.i->∃q,P.underlying t=some (.int q))/\(k=.b->P.underlying t=some .bool)/\(k=.s->P.underlying t=some .string)/\(k=.sl->∃q,P.underlying t=some (.slice q))/\(k=.pt->∃q,P.underlying t=some (.pointer q))/\(k=.fn->∃p q r,P.underlying t=some (.func p q r))):
 (Op.equalIn (d+1) t u v).run P w=.ok b w:=by
 have h':eqK k c e=some b:=by
  simp only[eqKs]at h;split at h
  ·rename_i e1 e2;injection e2 with e2;subst e2;rw[e1];simpa using h
  ·cases h
 obtain⟨h1,h2,h3,h4,h5,h6⟩:=hk
 cases k with
 |i=>
  obtain⟨q,hq⟩:=h1 rfl
  cases hu<;>simp[eqK]at h'
  cases hv<;>simp[eqK]at h';obtain⟨rfl,rfl⟩:=h';simp[Op.equalIn,run_underlying hq]
 |b=>
  have hq:=h2 rfl
  cases hu<;>simp[eqK]at h'
  cases hv<;>simp[eqK]at h';subst h';simp[Op.equalIn,run_underlying hq]
 |s=>
  have hq:=h3 rfl
  cases hu<;>simp[eqK]at h'
  cases hv<;>simp[eqK]at h';subst h';rw[run_equalIn_string w d t _ _ hq];simp[ByteArray.toList_eq]
 |sl=>
  obtain⟨q,hq⟩:=h4 rfl;have n1:∀a l n,(Op.equalIn (d+1) t (.slice a l n) (.slice none 0 0)).run P w=.ok a.isNone w:=λa l n=>by
   cases a<;>simp[Op.equalIn,run_underlying hq]
  have n2:∀a l n,(Op.equalIn (d+1) t (.slice none 0 0) (.slice a l n)).run P w=.ok a.isNone w:=λa l n=>by
   cases a<;>simp[Op.equalIn,run_underlying hq]
  unfold eqK at h';split at h'<;>try(cases h';done)
  ·rename_i he;cases he
  ·rename_i he;cases he
  ·rename_i he;cases he
  ·injection h' with h';subst h';cases hu;cases hv;rw[n1];rfl
  ·injection h' with h';subst h';cases hu;cases hv;rw[n1];rfl
  ·injection h' with h';subst h';cases hu;cases hv;rw[n2];rfl
  ·injection h' with h';subst h';cases hu;cases hv;rw[n1];rfl
  all_goals(rename_i he;cases he)
 |pt=>
  obtain⟨q,hq⟩:=h5 rfl
  cases hu<;>simp[eqK]at h'<;>cases hv<;>simp[eqK]at h'<;>subst h'<;>simp[Op.equalIn,run_underlying hq]
 |fn=>
  obtain⟨p,q,r,hq⟩:=h6 rfl
  cases hu<;>simp[eqK]at h'<;>cases hv<;>simp[eqK]at h'<;>subst h'<;>simp[Op.equalIn,run_underlying hq]

end
end Go.Proofs.YtedaadaaibofaaaGreat.Am
namespace Go.Proofs.YtedaadaaibofaaaGreat.Am
open Go.RowKit

theorem zgz{P:Program}{C:Cx}(w:World):∀(d:Nat) (t:TypeId) (ks:List EK),jbs P d t=some ks->∀(D:Nat),d<=D->∀{cs ds:List Ce} {b:Bool} {u v:Value} {g:Bool},eqKs ks cs ds=some b->jbw P t=some g->
 VOf C g cs u->VOf C g ds v->(Op.equalIn D t u v).run P w=.ok b w:=by
 intro d
 induction d with
 |zero=>intro t ks h;simp[jbs]at h
 |succ d ih=>
  intro t ks h D hD cs ds b u v g hb hg hu hv;obtain⟨D,rfl⟩:∃m,D=m+1:=⟨D-1,O⟩;have hlen:=jhq hb;have scal:∀k,ks=[k]->g=false->((k=.i->∃q,P.underlying t=some (.int q))/\(k=.b->P.underlying t=some .bool)/\(k=.s->P.underlying t=some .string)/\(k=.sl->∃q,P.underlying t=some (.slice q))/\(k=.pt->∃q,P.underlying t=some (.pointer q))/\(k=.fn->∃p q r,P.underlying t=some (.func p q r)))->(Op.equalIn (D+1) t u v).run P w=.ok b w:=by
   intro k hk e hh;subst hk e;simp only[VOf]at hu hv;obtain⟨c,rfl,hc⟩:=hu;obtain⟨c',rfl,hc'⟩:=hv;exact eqK1 D w hb hc hc' hh
  simp only[jbs]at h;split at h
  ·rename_i q hq;injection h with h;refine scal .i h.symm ?_ ⟨λ_=>⟨q,hq⟩,λe=>(by cases e),λe=>(by cases e),λe=>(by cases e),λe=>(by cases e),λe=>(by cases e)⟩;simpa [jbw,hq]using hg.symm
  ·rename_i hq;injection h with h;refine scal .s h.symm ?_ ⟨λe=>(by cases e),λe=>(by cases e),λ_=>hq,λe=>(by cases e),λe=>(by cases e),λe=>(by cases e)⟩;simpa [jbw,hq]using hg.symm
  ·rename_i hq;injection h with h;refine scal .b h.symm ?_ ⟨λe=>(by cases e),λ_=>hq,λe=>(by cases e),λe=>(by cases e),λe=>(by cases e),λe=>(by cases e)⟩;simpa [jbw,hq]using hg.symm
  ·rename_i fs hq;have hgt:g=true:=by simpa [jbw,hq]using hg.symm
   subst hgt;simp only[VOf,if_true]at hu hv;obtain⟨xs,rfl,hxl,hx⟩:=hu;obtain⟨ys,rfl,hyl,hy⟩:=hv;split at h
   ·cases h
   ·rename_i hs;have hs':P.stoodInHeld t=false:=by simpa using hs
    have hf:P.fieldsOf t=fs:=by simp[Program.fieldsOf,hq]
    rw[run_equalIn_struct (P:=P) w D t xs ys (by rw[hf];exact hq) hs',hf]
    -- the fields one by one
    have key:∀(l:List Field) (k0:List EK) (b:Bool),l.foldlM (λks f=>if f.name != "_" &&f.offset==ks.length then(match jbs P d f.type with
     |some l=>if ww P f.type=some l.length then some (ks++l)else none
     |none=>none)else none) k0=some ks->eqKs (ks.drop k0.length) (cs.drop k0.length) (ds.drop k0.length)=some b->ks.take k0.length=k0->(Op.eqFields D xs ys l).run P w=.ok b w:=by
     intro l
     induction l with
     |nil=>
      intro k0 b h1 h2 h3;simp at h1;subst h1;simp at h2;have e1:List.drop k0.length cs=[]:=by simp;omega
      have e2:List.drop k0.length ds=[]:=by simp;omega
      rw[e1,e2]at h2;simp[eqKs]at h2;subst h2;simp[Op.eqFields]
     |cons f l ihl=>
      intro k0 b h1 h2 h3;simp only[List.foldlM_cons]at h1;split at h1
      ·rename_i hc;simp only[Bool.and_eq_true,bne_iff_ne,ne_eq,beq_iff_eq]at hc;obtain⟨hn,ho⟩:=hc
       cases he:jbs P d f.type with
       |none=>simp[he]at h1
       |some kl=>
        simp only[he]at h1;by_cases hz:ww P f.type=some kl.length
        ·simp only[hz,if_true]at h1;change (l.foldlM _ (k0++kl))=some ks at h1;have hpre:ks.take (k0++kl).length=k0++kl:=by
          have pre:∀(l:List Field) (k0 ks:List EK),l.foldlM (λks f=>if f.name != "_" &&f.offset==ks.length then(match jbs P d f.type with
           |some l=>if ww P f.type=some l.length then some (ks++l)else none
           |none=>none)else none) k0=some ks->ks.take k0.length=k0:=by
           intro l
           induction l with
           |nil=>intro k0 ks h;simp at h;subst h;simp
           |cons f l ihp=>
            intro k0 ks h;simp only[List.foldlM_cons]at h;split at h
            ·cases he:jbs P d f.type with
             |none=>simp[he]at h
             |some kl=>
              simp only[he]at h;by_cases hz:ww P f.type=some kl.length
              ·simp only[hz,if_true]at h;have h':=ihp (k0++kl) ks h;have:=congrArg (List.take k0.length) h';simpa [List.take_take]using this
              ·simp[hz]at h
            ·simp at h
          exact pre l _ ks h1
         have hdrop:ks.drop k0.length=kl++ks.drop (k0++kl).length:=by
          have e0:ks=k0++kl++ks.drop (k0++kl).length:=by
           conv=>lhs;rw[<-List.take_append_drop (k0++kl).length ks,hpre]
          conv=>lhs;rw[e0]
          simp
         rw[hdrop]at h2;obtain⟨hl1,hl2,p,q,h4,h5,rfl⟩:=jip h2;simp only[List.drop_drop]at h5;have h6:=ihl (k0++kl) q h1 (by simpa using h5) hpre;obtain⟨gf,hgf⟩:∃gf,jbw P f.type=some gf:=by
          unfold jbw
          cases hu:P.underlying f.type with
          |none=>
           cases d with
           |zero=>simp[jbs]at he
           |succ d=>simp[jbs,hu]at he
          |some z=>cases z<;>exact⟨_,rfl⟩
         have hpart:∀(zs:Array Value) (es:List Ce) (hl:zs.size=es.length) (hz:∀i (hi:i<es.length),Rp C es[i] (zs[i]'O)) (hle:kl.length<=(es.drop k0.length).length),
          ∃z,(part f.type zs f.offset).run P w=.ok z w/\VOf C gf ((es.drop k0.length).take kl.length) z:=by
          intro zs es hl hzz hle;simp only[List.length_drop]at hle
          cases gf with
          |true=>
           refine⟨.agg (zs.extract k0.length (k0.length+kl.length)),by simp[part,jbz hgf,w9 hz,ho], ?_⟩;simp only[VOf,if_true];refine⟨_,rfl,by simp;omega,λi hi=>?_⟩;simp only[List.length_take,List.length_drop]at hi;have:=hzz (k0.length+i) O;simpa using this
          |false=>
           have hk1:kl.length=1:=by
            cases d with
            |zero=>simp[jbs]at he
            |succ d=>
             simp only[jbs]at he;split at he
             ·injection he with he;rw[<-he];rfl
             ·injection he with he;rw[<-he];rfl
             ·injection he with he;rw[<-he];rfl
             ·rename_i hq2;simp[jbw,hq2]at hgf
             ·cases he
           have hlt:k0.length<zs.size:=O;refine⟨zs[k0.length],by simp[part,jbz hgf,ho,hlt], ?_⟩;simp only[VOf,Bool.false_eq_true,if_false];refine⟨es[k0.length]'O, ?_,hzz _ O⟩;rw[hk1,yab (by omega:k0.length<es.length)]
           rfl
         obtain⟨za,ha1,ha2⟩:=hpart xs cs hxl hx hl1;obtain⟨zb,hb1,hb2⟩:=hpart ys ds hyl hy hl2;have h7:=ih f.type kl he D O h4 hgf ha2 hb2;simp only[Op.eqFields,if_pos hn,Sem.run_bind,ha1,hb1,h7,Result.andThen_ok]
         cases p
         ·simp
         ·simpa using h6
        ·simp[hz]at h1
      ·simp at h1
    exact key fs.toList [] b h (by simpa using hb) gx
  ·cases h

end Go.Proofs.YtedaadaaibofaaaGreat.Am
namespace Go.Proofs.YtedaadaaibofaaaGreat.Am
open Go.RowKit

section
variable {P:Program}{nt:Nat}{C:Cx}{G G':jb}{fr:Fr}{a:Act}{o:Oper}{x:AV}

theorem whq:(BinOp.eql==BinOp.neq)=false:=gb
theorem zhr:(BinOp.neq==BinOp.neq)=true:=gb
variable {u:Value}
theorem zba{k:IntKind}{n:Int}(h:Rp C (.int k n) u):u=.int k n:=by cases h;rfl
theorem jes{s:List UInt8}(h:Rp C (.str s) u):u=.string ⟨s.toArray⟩:=by cases h;rfl
theorem zga{b:Bool}(h:Rp C (.bool b) u):u=.bool b:=by cases h;rfl
theorem jdi{c:Ce}(h:RpV C (.c c) u):Rp C c u:=by cases h;assumption

theorem wes(op:BinOp)(t:TypeId)(p q:Operand)(k k':IntKind)(m n:Int)(w:World):(eqGuard op t p q (.int k m) (.int k' n)).run P w=.ok () w:=by
 cases op<;>simp[eqGuard]
theorem zet(op:BinOp)(t:TypeId)(p q:Operand)(m n:ByteArray)(w:World):(eqGuard op t p q (.string m) (.string n)).run P w=.ok () w:=by
 cases op<;>simp[eqGuard]

variable {op:BinOp}
theorem wip{p q r:AV}{v:Value}(t:TypeId)(w:World)(h:binA op p q=some r)(hu:RpV C p u)(hv:RpV C q v)(y z:Operand):
 ∃s,(do eqGuard op t y z u v;binOp op t u v).run P w=.ok s w/\RpV C r s:=by
 unfold binA at h;split at h
 ·rename_i k m k' n;obtain rfl:=zba (jdi hu);obtain rfl:=zba (jdi hv);simp only[Sem.run_bind,wes,Result.andThen_ok]
  cases op<;>simp only at h<;>first
   |(split at h
     ·rename_i hc;injection h with h;subst h
      first
      |(obtain⟨rfl,hn⟩:=hc
        refine⟨_, ?_,.c (.int _ _)⟩;simp[binOp,Op.intDiv,hn]
        done)
      |(subst hc
        refine⟨_, ?_,.c (.int _ _)⟩;simp[binOp,Op.intArith,Op.intBits]
        done)
      |(subst hc
        refine⟨_, ?_,.c (.bool _)⟩;simp[binOp,Op.intCmp]
        done)
      |(refine⟨_, ?_,.c (.int _ _)⟩
        have hc':¬n<0:=O;simp[binOp,Op.shift,hc']
        done)
     ·cases h)
   |cases h
 ·rename_i s1 s2;obtain rfl:=jes (jdi hu);obtain rfl:=jes (jdi hv);simp only[Sem.run_bind,zet,Result.andThen_ok];have tl:∀s:List UInt8,(⟨s.toArray⟩:ByteArray).toList=s:=λs=>by rw[ByteArray.toList_eq]
  have sz:∀s:List UInt8,(⟨s.toArray⟩:ByteArray).size=s.length:=λs=>rfl
  cases op<;>simp only at h<;>first
   |(injection h with h
     subst h;refine⟨_, ?_,.c (.bool _)⟩;simp[binOp,Op.stringOp,tl,jb6,bne]
     done)
   |(split at h
     ·rename_i hc;injection h with h;subst h;refine⟨.string ⟨(s1++s2).toArray⟩, ?_,.c (.str _)⟩;have hm:¬(9223372036854775807<((s1.length:Int)+(s2.length:Int))):=O;have happ:(⟨s1.toArray⟩:ByteArray)++⟨s2.toArray⟩=⟨(s1++s2).toArray⟩:=by
       apply ByteArray.ext;simp[ByteArray.data_append]
      simp[binOp,Op.stringOp,sz,happ];omega
     ·cases h)
   |cases h
 ·cases h

theorem zi5{t t':TypeId}{p q:Operand}{p' q':Opd}(hop:o.op=.binOp op t p q t')(hp:zh p=some p')(hq:zh q=some q')(h:aop (.bin op p' q') fr G=some (x,G'))(hR:Rl C G)(hF:FrR C nt fr a):OpOk P C a o x G':=by
 simp only[aop]at h;split at h
 ·rename_i u v hu hv;obtain⟨r,hr,h2⟩:=Option.map_eq_some_iff.1 h;injection h2 with h2 h3;subst h2 h3;obtain⟨s,hs,hx⟩:=wip (P:=P) t C.w hr (jz hF hp hu) (jz hF hq hv) p q;exact .pure hR hx (by simp only[execOp,hop];rw[Sem.run_bind,hs];rfl)
 ·cases h

theorem ji5{t t':TypeId}{p q:Operand}{p' q':Opd}{g:Bool}{ks:List EK}(hop:o.op=.binOp op t p q t')(hoq:op=.eql\/op=.neq)(hp:zh p=some p')(hq:zh q=some q')
 (hk:(g=true/\jbs P 8 t=some ks/\P.eqGuardType P.depth t=false/\jbw P t=some true)\/(g=false/\∃k,ks=[k]/\k≠.i/\k≠.s/\((k=.i->∃q,P.underlying t=some (.int q))/\(k=.b->P.underlying t=some .bool)/\(k=.s->P.underlying t=some .string)/\(k=.sl->∃q,P.underlying t=some (.slice q))/\(k=.pt->∃q,P.underlying t=some (.pointer q))/\(k=.fn->∃p q r,P.underlying t=some (.func p q r)))))
 (h:aop (.eq (op==.neq) g ks p' q') fr G=some (x,G')) (hR:Rl C G) (hF:FrR C nt fr a):OpOk P C a o x G':=by
 simp only[aop]at h;split at h
 ·rename_i cs ds hu hv;rcases hk with⟨rfl,hk,hgd,hag⟩|⟨rfl,_⟩
  ·simp only[if_true]at h;obtain⟨b,hb,h2⟩:=Option.map_eq_some_iff.1 h;injection h2 with h2 h3;subst h2 h3;have h1:=jz hF hp hu;have h2:=jz hF hq hv;obtain⟨u,hu'⟩:∃u,a.eval p=u:=⟨_,rfl⟩;obtain⟨v,hv'⟩:∃v,a.eval q=v:=⟨_,rfl⟩;rw[hu']at h1;rw[hv']at h2
   cases h1 with
   |agg hl1 hc1=>
    rename_i us
    cases h2 with
    |agg hl2 hc2=>
     rename_i vs;have he:=zgz (C:=C) (P:=P) C.w 8 t ks hk 10000 O hb hag (u:=.agg us) (v:=.agg vs) (by simp only[VOf,if_true];exact⟨us,rfl,hl1,hc1⟩) (by simp only[VOf,if_true];exact⟨vs,rfl,hl2,hc2⟩);refine .pure hR (.c (.bool _)) ?_;simp only[execOp,hop,hu',hv'];rcases hoq with rfl|rfl
     ·simp[run_eqGuard_agg (P:=P) C.w _ t p q us vs hgd,run_eql_struct,he,whq]
     ·simp[run_eqGuard_agg (P:=P) C.w _ t p q us vs hgd,run_neq_struct,he,zhr]
  ·simp at h
 ·rename_i c d hu hv;rcases hk with⟨rfl,_⟩|⟨rfl,k,rfl,hki,hks,hk⟩
  ·simp at h
  ·simp only[Bool.false_eq_true,if_false]at h;obtain⟨b,hb,h2⟩:=Option.map_eq_some_iff.1 h;injection h2 with h2 h3;subst h2 h3;have h1:=z7 hF hp hu;have h2:=z7 hF hq hv;obtain⟨u,hu'⟩:∃u,a.eval p=u:=⟨_,rfl⟩;obtain⟨v,hv'⟩:∃v,a.eval q=v:=⟨_,rfl⟩;rw[hu']at h1;rw[hv']at h2;have he:=eqK1 (P:=P) 9999 C.w hb h1 h2 hk;refine .pure hR (.c (.bool _)) ?_;simp only[execOp,hop,hu',hv'];have hgu:(eqGuard op t p q u v).run P C.w=.ok () C.w:=by
    cases h1<;>cases h2<;>first
     |(rcases hoq with rfl|rfl<;>simp[eqGuard];done)
     |(cases k<;>simp[eqKs,eqK]at hb)
   have hbo:(binOp op t u v).run P C.w=.ok (.bool (b !=(op==.neq))) C.w:=by
    have hq1:(Op.equal t u v).run P C.w=.ok b C.w:=he;rcases hoq with rfl|rfl
    ·have:binOp .eql t u v=(do pure (.bool (<-Op.equal t u v)):Sem Value):=by
      cases h1<;>cases h2<;>first
       |rfl
       |(cases k<;>simp[eqKs,eqK]at hb<;>simp at hki hks)
     rw[this,Sem.run_bind,hq1];simp[whq]
    ·have:binOp .neq t u v=(do pure (.bool (!(<-Op.equal t u v))):Sem Value):=by
      cases h1<;>cases h2<;>first
       |rfl
       |(cases k<;>simp[eqKs,eqK]at hb<;>simp at hki hks)
     rw[this,Sem.run_bind,hq1];simp[zhr]
   simp only[Sem.run_bind,hgu,hbo,Result.andThen_ok]
   rfl
 ·cases h

end
end Go.Proofs.YtedaadaaibofaaaGreat.Am
namespace Go.Proofs.YtedaadaaibofaaaGreat.Am
open Go.RowKit

section
variable {P:Program}{nt:Nat}{C:Cx}{G G':jb}{fr:Fr}{a:Act}{o:Oper}{x:AV}

variable {t:TypeId}{y:Operand}{z:Opd}
theorem zlj{op:UnOp}(hop:o.op=.unOp op t y)(hy:zh y=some z)(h:aop (.un op z) fr G=some (x,G'))(hR:Rl C G)(hF:FrR C nt fr a):OpOk P C a o x G':=by
 simp only[aop]at h;obtain⟨r,hr,h2⟩:=Option.map_eq_some_iff.1 h;injection h2 with h2 h3;subst h2 h3;obtain⟨v,hv,hr⟩:=Option.bind_eq_some_iff.1 hr;have h1:=jz hF hy hv;obtain⟨u,hu⟩:∃u,a.eval y=u:=⟨_,rfl⟩;rw[hu]at h1;unfold unA at hr;split at hr
 ·obtain rfl:=zga (jdi h1)
  cases op<;>simp at hr;subst hr;exact .pure hR (.c (.bool _)) (by simp[execOp,hop,hu,Op.unary])
 ·obtain rfl:=zba (jdi h1)
  cases op<;>simp at hr;subst hr;exact .pure hR (.c (.int _ _)) (by simp[execOp,hop,hu,Op.unary,Op.intArith])
 ·cases hr

theorem jkv{t':TypeId}{k k0:IntKind}(hop:o.op=.convert t t' y)(ht:P.underlying t=some (.int k0))(ht':P.underlying t'=some (.int k))(hy:zh y=some z)(h:aop (.conv k z) fr G=some (x,G'))(hR:Rl C G)(hF:FrR C nt fr a):OpOk P C a o x G':=by
 simp only[aop]at h;split at h
 ·rename_i k1 n hv;injection h with h;injection h with h2 h3;subst h2 h3;have h1:=z7 hF hy hv;obtain⟨u,hu⟩:∃u,a.eval y=u:=⟨_,rfl⟩;rw[hu]at h1;obtain rfl:=zba h1;exact .pure hR (.c (.int _ _)) (by simp[execOp,hop,hu,convert,run_underlying ht,run_underlying ht',Conv.intToInt])
 ·cases h

theorem ziq(l:List UInt8):∀(s:ByteArray),l.foldl (λr n=>r.push n) s=⟨(s.data.toList++l).toArray⟩:=by
 induction l with
 |nil=>intro s;simp
 |cons b l ih=>intro s;simp only[List.foldl_cons,ih];simp[ByteArray.push]
theorem jlb{t' e:TypeId}(hop:o.op=.convert t t' y)(ht:P.underlying t=some (.slice e))(ht':P.underlying t'=some .string)(he:P.underlying e=some (.int .u8))(hy:zh y=some z)(h:aop (.b2s z) fr G=some (x,G'))(hR:Rl C G)(hF:FrR C nt fr a):OpOk P C a o x G':=by
 simp only[aop]at h;split at h
 ·rename_i c hv;obtain⟨l,hl,h2⟩:=Option.map_eq_some_iff.1 h;injection h2 with h2 h3;subst h2 h3;obtain⟨es,hes,hl⟩:=Option.bind_eq_some_iff.1 hl;have h1:=z7 hF hy hv;obtain⟨u,hu⟩:∃u,a.eval y=u:=⟨_,rfl⟩;rw[hu]at h1;obtain⟨ad,cap,rfl,hcap,hc⟩:=zdi hR h1 hes;have hb:∀(es:List (List Ce)) (l:List UInt8),b2sA es=some l->∃ns:List Int,es=ns.map (λn=>[Ce.int .u8 n])/\l=ns.map (λn=>UInt8.ofNat n.toNat):=by
   intro es
   induction es with
   |nil=>intro l h;simp[b2sA]at h;subst h;exact⟨[],rfl,rfl⟩
   |cons e es ih=>
    intro l h;unfold b2sA at h;split at h
    ·rename_i he;cases he
    ·rename_i n r he;injection he with h1 h2;subst h1 h2;obtain⟨l',hl',rfl⟩:=Option.map_eq_some_iff.1 h;obtain⟨ns,rfl,rfl⟩:=ih l' hl';exact⟨n::ns,rfl,rfl⟩
    ·cases h
  obtain⟨ns,rfl,rfl⟩:=hb es l hl;refine .pure hR (.c (.str _)) ?_;have fin:(Conv.bytesToString (.slice ad (ns.map λn=>[Ce.int .u8 n]).length cap)).run P C.w=.ok (.string ⟨(ns.map λn=>UInt8.ofNat n.toNat).toArray⟩) C.w:=by
   rcases hc with hc|⟨b,o',s,rfl,hs,vs,hc⟩
   ·have:ns=[]:=by simpa using hc
    subst this
    cases ad with
    |none=>simp[Conv.bytesToString];rfl
    |some ad=>
     have h0:(loadCells ad 0).run P C.w=.ok (([]:List Int).map (Value.int .u8)).toArray C.w:=by simp[loadCells,loadCellsFrom]
     have:=run_bytesToString (P:=P) C.w ad 0 cap [] h0;exact this
   ·have hl1:∀j u,(ns.map (Value.int .u8))[j]?=some u->C.w.cell? ((⟨b,o',none⟩:Addr).add j)=some u:=by
     intro j u hj;obtain⟨hlt,rfl⟩:=List.getElem?_eq_some_iff.1 hj;simp only[List.length_map]at hlt;have hs1:s=1:=by
      have:=hs j (by simpa using hlt);simpa using this.symm
     subst hs1;obtain⟨h3,h4⟩:=hc j 0 (by simpa using hlt) gx;simp only[List.getElem_map,List.getElem_cons_zero]at h4;rw[za8];have:=zba h4;simp only[List.getElem_map];rw[this]at h3;simpa using h3
    have hl2:=run_loadCells_list (P:=P) C.w ⟨b,o',none⟩ (ns.map (Value.int .u8)) hl1;rw[yae]at hl2;have:=run_bytesToString (P:=P) C.w ⟨b,o',none⟩ ns.length cap ns hl2;rw[yae];rw[this]
    congr 2
    have:=ziq (ns.map λn=>UInt8.ofNat n.toNat) ByteArray.empty;rw[List.foldl_map]at this;simpa using this
  simp only[execOp,hop,hu,convert,Sem.run_bind,run_underlying ht,run_underlying ht',run_underlying he,Result.andThen_ok,fin]
  rfl
 ·cases h

theorem wkv{f:FuncId}{pre cap:Array Operand}{p q:List Opd}(hop:o.op=.makeFunc (.func f) pre cap)(hp:pre.toList.mapM zh=some p)(hq:cap.toList.mapM zh=some q)(h:aop (.mkfn f p q) fr G=some (x,G'))(hR:Rl C G)(hF:FrR C nt fr a):OpOk P C a o x G':=by
 simp only[aop]at h;split at h
 ·rename_i ps cs h1 h2;injection h with h;injection h with h3 h4;subst h3 h4;obtain⟨l1,r1⟩:=wer hF hp h1;obtain⟨l2,r2⟩:=wer hF hq h2;refine .pure (v:=.func (.func f) (pre.map a.eval) (cap.map a.eval)) hR (.c (.fn f ps cs _ _ (by simpa using l1) (by simpa using l2) (λi hi=>?_) (λi hi=>?_))) (by simp[execOp,hop,Instr.makeFunc])
  ·have:=r1 i O hi;simpa using this
  ·have:=r2 i O hi;simpa using this
 ·cases h

theorem wbs(hF:FrR C nt fr a){y:Option Operand}{z:Option Opd}(hy:wa9 y=some z){r:Option AV}(hr:evo fr z=some r):(y=none/\r=none)\/∃y' v,y=some y'/\r=some v/\RpV C v (a.eval y'):=by
 cases y with
 |none=>simp[wa9]at hy;subst hy;simp[evo]at hr;exact .inl ⟨rfl,hr.symm⟩
 |some y=>
  simp only[wa9,Option.map_eq_some_iff]at hy;obtain⟨z',hz,rfl⟩:=hy;simp only[evo,Option.map_eq_some_iff]at hr;obtain⟨v,hv,rfl⟩:=hr;exact .inr ⟨y,v,rfl,rfl,jz hF hz hv⟩
theorem jhr{v:AV}{u:Value}(hv:RpV C v u){d n:Nat}(h:zam d (some v)=some n):∃k,u=.int k (n:Int):=by
 unfold zam at h;split at h
 ·rename_i e;cases e
 ·rename_i k m e;injection e with e;subst e;split at h
  ·rename_i h0;injection h with h;subst h;exact⟨k,by rw[zba (jdi hv)];congr 1;omega⟩
  ·cases h
 ·cases h
theorem wz{k:IntKind}{n y:Nat}(code:BoundsCode)(w:World)(h:n<=y):(Instr.sliceBound (.int k n) y code).run P w=.ok n w:=by
 have:(0:Int)<=n/\(n:Int)<=y:=⟨O,O⟩;simp[Instr.sliceBound,asIntOf,this]
theorem jcj(hF:FrR C nt fr a)(isSl:Bool){len cap:Nat}{lo hi mx:Option Operand}{lo' hi' mx':Option Opd}(h1:wa9 lo=some lo')(h2:wa9 hi=some hi')(h3:wa9 mx=some mx'){vl vh vm:Option AV}(e1:evo fr lo'=some vl)(e2:evo fr hi'=some vh)(e3:evo fr mx'=some vm)
 {l h m dm:Nat} (b1:zam 0 vl=some l) (b2:zam len vh=some h) (b3:zam dm vm=some m) (hlh:l<=h) (hhm:h<=m) (hmc:m<=cap) (hno:vm≠none->vh≠none) (w:World):
 (Instr.sliceBounds isSl len cap (lo.map a.eval) (hi.map a.eval) (mx.map a.eval)).run P w=.ok (l,h,if vm=none then cap else m) w:=by
 have key:∀{y:Option Operand} {v:Option AV} {d n:Nat},((y=none/\v=none)\/∃y' v',y=some y'/\v=some v'/\RpV C v' (a.eval y'))->zam d v=some n->(y=none/\v=none/\n=d)\/∃y' k,y=some y'/\v≠none/\a.eval y'=.int k (n:Int):=by
  intro y v d n hh hb;rcases hh with⟨rfl,rfl⟩|⟨y',v',rfl,rfl,hv⟩
  ·simp[zam]at hb;exact .inl ⟨rfl,rfl,hb.symm⟩
  ·obtain⟨k,hk⟩:=jhr hv hb;exact .inr ⟨y',k,rfl,gx,hk⟩
 have kl:=key (wbs hF h1 e1) b1;have kh:=key (wbs hF h2 e2) b2;have km:=key (wbs hF h3 e3) b3;rcases km with⟨rfl,rfl,rfl⟩|⟨ym,k3,rfl,hm,hm'⟩
 ·rcases kh with⟨rfl,rfl,rfl⟩|⟨yh,k2,rfl,hh,hh'⟩
  ·rcases kl with⟨rfl,rfl,rfl⟩|⟨yl,k1,rfl,hl,hl'⟩
   ·simp[Instr.sliceBounds]
   ·simp[Instr.sliceBounds,hl',wz _ _ hlh]
  ·have hhc:h<=cap:=O;rcases kl with⟨rfl,rfl,rfl⟩|⟨yl,k1,rfl,hl,hl'⟩
   ·simp[Instr.sliceBounds,hh',wz _ _ hhc]
   ·simp[Instr.sliceBounds,hh',hl',wz _ _ hhc,wz _ _ hlh]
 ·rcases kh with⟨rfl,rfl,rfl⟩|⟨yh,k2,rfl,hh,hh'⟩
  ·exact absurd rfl (hno hm)
  ·rcases kl with⟨rfl,rfl,rfl⟩|⟨yl,k1,rfl,hl,hl'⟩
   ·simp[Instr.sliceBounds,hm',hh',wz _ _ hmc,wz _ _ hhm,hm]
   ·simp[Instr.sliceBounds,hm',hh',hl',wz _ _ hmc,wz _ _ hhm,wz _ _ hlh,hm]

theorem wig(hF:FrR C nt fr a){y:Option Operand}{z:Option Opd}(hy:wa9 y=some z){r:Option AV}(hr:evo fr z=some r):r=none↔y=none:=by
 rcases wbs hF hy hr with⟨rfl,rfl⟩|⟨y',v,rfl,rfl,_⟩<;>simp

theorem jj2{e:TypeId}{s:Nat}{lo hi mx:Option Operand}{lo' hi' mx':Option Opd}(hop:o.op=.slice t y lo hi mx)(ht:P.underlying t=some (.slice e))(hs:ww P e=some s)(hno:mx.isNone\/hi.isSome)
 (hy:zh y=some z) (h1:wa9 lo=some lo') (h2:wa9 hi=some hi') (h3:wa9 mx=some mx') (hs0:0<s) (h:aop (.slice s z lo' hi' mx') fr G=some (x,G')) (hR:Rl C G) (hF:FrR C nt fr a):OpOk P C a o x G':=by
 simp only[aop]at h;split at h
 ·rename_i c vl vh vm hv e1 e2 e3;obtain⟨r,hr,h4⟩:=Option.map_eq_some_iff.1 h;injection h4 with h4 h5;subst h4 h5;have hx:=z7 hF hy hv;obtain⟨u,hu⟩:∃u,a.eval y=u:=⟨_,rfl⟩;rw[hu]at hx;have nomx:vm≠none->vh≠none:=by
   intro hm hh;rw[Ne,wig hF h3 e3]at hm;rw[wig hF h2 e2]at hh;rcases hno with h|h
   ·exact hm (by simpa using h)
   ·subst hh;simp at h
  -- the machine's part, for a slice with an address
  have go:∀{ad:Option Addr} {len cap l hh m dm:Nat},u=.slice ad len cap->zam 0 vl=some l->zam len vh=some hh->zam dm vm=some m->l<=hh->hh<=m->m<=cap->
   (execOp a.eval o).run P C.w=.ok (.value (.slice (if(if vm=none then cap else m)=l then ad else ad.map (·.add (l*s))) (hh-l) ((if vm=none then cap else m)-l))) C.w:=by
   intro ad len cap l hh m dm hul b1 b2 b3 q1 q2 q3;have hb:=jcj (P:=P) (a:=a) hF true h1 h2 h3 e1 e2 e3 b1 b2 b3 q1 q2 q3 nomx C.w;simp only[execOp,hop,hu,hul,Instr.sliceAt,Instr.slice,Sem.run_bind,run_underlying ht,Result.andThen_ok];rw[hb];simp only[Result.andThen_ok,w9 hs,Sem.run_pure]
  unfold wfx at hr;split at hr
  ·-- nobody writes it
   rename_i es;split at hr
   ·rename_i l hh b1 b2;split at hr
    ·rename_i hc;obtain⟨q1,q2,hes⟩:=hc
     -- what the value is
     obtain⟨ad,cap,rfl,hcap,hel⟩:∃ad cap,u=.slice ad es.length cap/\es.length<=cap/\(es=[]\/∃(b o':Nat) (vs:Nat->Nat->Value),ad=some ⟨b,o',none⟩/\b<C.w.heap.size/\¬C.M b/\
      (∀i j,i<es.length->j<s->C.w.cell? ⟨b,o'+(i*s+j),none⟩=some (vs i j))/\∀i j (hi:i<es.length) (hj:j<es[i].length),Rp C (es[i][j]) (vs i j)):=by
      cases hx with
      |fz0 ad cap=>exact⟨ad,cap,rfl,gx,.inl rfl⟩
      |fz _ b o' cap sz vs hl hM hc hss cell hh=>
       rcases ybd es.length with h0|h0
       ·exact⟨_,cap,rfl,hc,.inl (yan h0)⟩
       ·have:sz=s:=by rw[<-hss 0 h0];exact hes _ (yaa _)
        subst this;exact⟨_,cap,rfl,hc,.inr ⟨b,o',vs,rfl,hl,hM,cell,hh⟩⟩
     have sub:∀(C':Nat),hh<=C'->C'<=cap->Rp C (.fz ((es.take hh).drop l)) (.slice (if C'=l then ad else ad.map (·.add (l*s))) (hh-l) (C'-l)):=by
      intro C' g1 g2;have hlen:((es.take hh).drop l).length=hh-l:=by simp;omega
      rcases ybd (hh-l)with h0|h0
      ·have:(es.take hh).drop l=[]:=yan O;rw[this,h0];exact .fz0 _ _
      ·rw[if_neg (by omega:¬C'=l)];rcases hel with rfl|⟨b,o',vs,rfl,hl,hM,cell,hc⟩
       ·simp at q2;omega
       ·simp only[Option.map_some,za8];have gi:∀k (hk:k<((es.take hh).drop l).length),((es.take hh).drop l)[k]=es[l+k]'(by rw[hlen]at hk;omega):=by
         intro k hk;simp
        have:=Rp.fz (C:=C) ((es.take hh).drop l) b (o'+l*s) (C'-l) s (λk j=>vs (l+k) j) hl hM O (λk hk=>by rw[gi k hk];exact hes _ (yaa _))
         (λk j hk hj=>by
           have:=cell (l+k) j O hj;rw[show o'+l*s+(k*s+j)=o'+((l+k)*s+j) by rw[yaxq];omega];exact this)
         (λk j hk hj=>by
           have e:((es.take hh).drop l)[k][j]=(es[l+k]'O)[j]'(by rw[<-gi k hk];exact hj):=gx;rw[e];exact hc (l+k) j O _)
        rw[hlen]at this;exact this
     split at hr
     ·-- no max
      injection hr with hr;subst hr;have hrun:=go (dm:=cap) rfl b1 b2 (m:=cap) rfl q1 O (yaf _);simp only[if_true]at hrun;exact .pure hR (.c (sub cap O (yaf _))) hrun
     ·rename_i m;split at hr
      ·rename_i mm b3;split at hr
       ·rename_i hm;have hrun:=go (dm:=0) rfl b1 b2 b3 q1 hm.1 O;simp only[reduceCtorEq,if_false]at hrun;split at hr
        ·rename_i e;injection hr with hr;subst hr;have e2:hh=l:=O;refine .pure (v:=.slice ad 0 0) hR (.c (.emp ad)) ?_;rw[hrun];simp[e,e2]
        ·injection hr with hr;subst hr;exact .pure hR (.c (sub mm hm.1 O)) hrun
       ·cases hr
      ·cases hr
    ·cases hr
   ·cases hr
  ·-- an owned one
   rename_i id v i n c;split at hr
   ·rename_i l hh m b1 b2 b3;split at hr
    ·rename_i v' es hg;split at hr
     ·rename_i hc;obtain⟨rfl,hes,q1,q2,q3⟩:=hc;injection hr with hr;subst hr
      cases hx with
      |sl0 _ _ _ ad hF'=>
       obtain rfl:m=0:=O;obtain rfl:hh=0:=O;obtain rfl:l=0:=O;have hrun:=go rfl b1 b2 b3 q1 q2 (yaf 0);simp only[ite_self,if_true]at hrun;refine .pure (v:=.slice ad 0 0) hR (.c (.sl0 _ _ _ _ hF')) ?_;simpa using hrun
      |sl _ _ _ _ _ cap hF' hn hcc hv' hk=>
       have hrun:=go rfl b1 b2 b3 q1 q2 (by omega:m<=cap);have hgen:∀C',m<=C'->C'<=cap->Rp C (.sl id v' (i+l) (hh-l) (m-l)) (.slice (if C'=l then(some ⟨(C.μ id v').b,(C.μ id v').base+i*(C.μ id v').s,none⟩)else(some (⟨(C.μ id v').b,(C.μ id v').base+i*(C.μ id v').s,none⟩:Addr)).map (·.add (l*s))) (hh-l) (C'-l)):=by
        intro C' g1 g2;by_cases e:C'=l
        ·have e1:hh-l=0:=O;have e2:m-l=0:=O;have e3:C'-l=0:=O;rw[e1,e2,e3];exact .sl0 _ _ _ _ hF'
        ·rw[if_neg e];obtain⟨lF,lV,lE⟩:=hR.live id v' es hg;have hne:es≠[]:=λe=>by have:=lE.2 e;rw[hv']at this;cases this
         obtain⟨cs,t',hb,hz,hl',_⟩:=hR.blk id v' es hg hne;have hss:(C.μ id v').s=s:=by
          have h0:0<es.length:=List.length_pos_iff.2 hne;rw[<-hl' 0 h0];exact hes _ (yaa _)
         simp only[Option.map_some,za8];obtain⟨cs',t'',hb',hz'⟩:=hk;have:=Rp.sl (C:=C) id v' (i+l) (hh-l) (m-l) (C'-l) hF' O O hv' ⟨cs',t'',hb',by
          have:(i+l+(C'-l))*(C.μ id v').s<=(i+cap)*(C.μ id v').s:=yapq _ O;omega⟩
         rw[hss]at this⊢;rw[show(C.μ id v').base+i*s+l*s=(C.μ id v').base+(i+l)*s by rw[yaxq];omega];exact this
       by_cases e:vm=none
       ·rw[if_pos e]at hrun;exact .pure hR (.c (hgen cap O (yaf _))) hrun
       ·rw[if_neg e]at hrun;exact .pure hR (.c (hgen m (yaf _) O)) hrun
     ·cases hr
    ·cases hr
   ·cases hr
  ·-- nil
   split at hr
   ·rename_i b1 b2 b3;injection hr with hr;subst hr
    cases hx;have hrun:=go rfl b1 b2 b3 (yaf 0) (yaf 0) (yaf 0);refine .pure (v:=.slice none 0 0) hR (.c .nils) ?_;simpa using hrun
   ·cases hr
  ·split at hr
   ·rename_i b1 b2 b3;injection hr with hr;subst hr
    cases hx with
    |emp ad=>
     have hrun:=go rfl b1 b2 b3 (yaf 0) (yaf 0) (yaf 0);refine .pure (v:=.slice ad 0 0) hR (.c (.emp _)) ?_;simpa using hrun
   ·cases hr
  ·cases hr
 ·cases h

theorem wj2{lo hi:Option Operand}{lo' hi':Option Opd}(hop:o.op=.slice t y lo hi none)(ht:P.underlying t=some .string)
 (hy:zh y=some z) (h1:wa9 lo=some lo') (h2:wa9 hi=some hi') (h:aop (.strsl z lo' hi') fr G=some (x,G')) (hR:Rl C G) (hF:FrR C nt fr a):OpOk P C a o x G':=by
 simp only[aop]at h;split at h
 ·rename_i s vl vh hv e1 e2;split at h
  ·rename_i l hh b1 b2;split at h
   ·rename_i hc;obtain⟨hlh,hhs⟩:=hc;injection h with h;injection h with h3 h4;subst h3 h4;have hx:=z7 hF hy hv;obtain⟨u,hu⟩:∃u,a.eval y=u:=⟨_,rfl⟩;rw[hu]at hx;obtain rfl:=jes hx;have hb:=jcj (P:=P) (a:=a) hF false (len:=s.length) (cap:=s.length) (mx:=none) (mx':=none) (vm:=none) (dm:=s.length) h1 h2 rfl e1 e2 rfl b1 b2 (m:=s.length) rfl hlh hhs (yaf _) (λh=>absurd rfl h) C.w;have hsz:(⟨s.toArray⟩:ByteArray).size=s.length:=rfl;have hex:(⟨s.toArray⟩:ByteArray).extract l hh=⟨(List.drop l (List.take hh s)).toArray⟩:=by
     apply ByteArray.ext;apply Array.ext';simp[ByteArray.data_extract,List.extract_eq_take_drop,List.drop_take]
    refine .pure hR (.c (.str _)) ?_;simp only[Option.map_none]at hb;simp only[execOp,hop,hu,Instr.sliceAt,Instr.slice,Sem.run_bind,run_underlying ht,Result.andThen_ok,Option.map_none,Option.isSome_none,Bool.false_eq_true,if_false,hsz];rw[hb];simp only[Result.andThen_ok,Sem.run_pure,hex]
   ·cases h
  ·cases h
 ·cases h

end
end Go.Proofs.YtedaadaaibofaaaGreat.Am
namespace Go.Proofs.YtedaadaaibofaaaGreat.Am
open Go.RowKit

section
variable {P:Program}{nt:Nat}{C:Cx}{G G':jb}{fr:Fr}{a:Act}{o:Oper}{x:AV}

variable {t ft:TypeId}{i off s:Nat}
theorem wdi(h:wdu P t i=some (off,s,ft)):∃fs f,P.underlying t=some (.struct fs)/\fs[i]?=some f/\f.offset=off/\f.type=ft/\ww P ft=some s:=by
 unfold wdu at h;split at h
 ·rename_i fs hu;split at h
  ·rename_i f hf;obtain⟨s',hs,h2⟩:=Option.map_eq_some_iff.1 h;injection h2 with h2 h3;injection h3 with h3 h4;subst h2 h3 h4;exact⟨fs,f,hu,hf,rfl,rfl,hs⟩
  ·cases h
 ·cases h

variable {cs:List Ce}
theorem wi5{b o':Nat}(hp:Rp C (.fp cs) (.pointer (some ⟨b,o',none⟩))){k:Nat}(hk:k<=cs.length):Rp C (.fp (cs.drop k)) (.pointer (some ⟨b,o'+k,none⟩)):=by
 cases hp with
 |fp _ _ _ vs hl hM cell h=>
  refine .fp (cs.drop k) b (o'+k) (λj=>vs (k+j)) hl hM (λj hj=>?_) (λj hj=>?_)
  ·have:=cell (k+j) (by simp at hj;omega);rwa [show o'+k+j=o'+(k+j) by omega]
  ·have e:(cs.drop k)[j]=cs[k+j]'(by simp at hj;omega):=gx;rw[e];exact h _ _
theorem wkp{u:Value}(hp:Rp C (.fp cs) u):∃b o',u=.pointer (some ⟨b,o',none⟩):=by cases hp;exact⟨_,_,rfl⟩
theorem jga{id v j:Nat}{u:Value}(hp:Rp C (.ptr id v i j) u):u=.pointer (some ⟨(C.μ id v).b,(C.μ id v).base+(i*(C.μ id v).s+j),none⟩)/\C.F id v/\(C.μ id v).virt=false:=by cases hp;exact⟨rfl,by assumption,by assumption⟩

variable {y:Operand}{z:Opd}
theorem zj3(hop:o.op=.fieldAddr t y i)(hf:wdu P t i=some (off,s,ft))(hs:0<s)(hy:zh y=some z)(h:aop (.faddr off z) fr G=some (x,G'))(hR:Rl C G)(hF:FrR C nt fr a):OpOk P C a o x G':=by
 obtain⟨fs,f,hu,hfi,rfl,rfl,hz⟩:=wdi hf;obtain⟨u,hu'⟩:∃u,a.eval y=u:=⟨_,rfl⟩;have run:∀b o',u=.pointer (some ⟨b,o',none⟩)->(execOp a.eval o).run P C.w=.ok (.value (.pointer (some ⟨b,o'+f.offset,none⟩))) C.w:=by
  intro b o' e;have hs':¬s=0:=O;simp[execOp,hop,hu',e,Instr.fieldAt,run_underlying hu,hfi,Instr.sureAddr,fieldPlace,w9 hz,hs',za8]
 simp only[aop]at h;split at h
 ·rename_i cs hv;split at h
  ·rename_i hle;injection h with h;injection h with h1 h2;subst h1 h2;have hx:=z7 hF hy hv;rw[hu']at hx;obtain⟨b,o',rfl⟩:=wkp hx;exact .pure hR (.c (wi5 hx hle)) (run b o' rfl)
  ·cases h
 ·rename_i id v k j hv;injection h with h;injection h with h1 h2;subst h1 h2;have hx:=z7 hF hy hv;rw[hu']at hx;obtain⟨rfl,hFF,hvv⟩:=jga hx;refine .pure hR (.c (.ptr id v k (j+f.offset) hFF hvv)) ?_;rw[run _ _ rfl]
  congr 4
  simp;omega
 ·cases h

theorem wlb{g:Bool}(hop:o.op=.field t y i)(hf:wdu P t i=some (off,s,ft))(hg:jbw P ft=some g)(hy:zh y=some z)(h:aop (.fld g off s z) fr G=some (x,G'))(hR:Rl C G)(hF:FrR C nt fr a):OpOk P C a o x G':=by
 obtain⟨fs,f,hu,hfi,rfl,rfl,hz⟩:=wdi hf;simp only[aop]at h;split at h
 ·rename_i cs hv;split at h
  ·rename_i hle;obtain⟨r,hr,h4⟩:=Option.map_eq_some_iff.1 h;injection h4 with h4 h5;subst h4 h5;have hx:=jz hF hy hv;obtain⟨u,hu'⟩:∃u,a.eval y=u:=⟨_,rfl⟩;rw[hu']at hx
   cases hx with
   |agg hl hc=>
    obtain⟨w',h1,h2⟩:=wgy hg hz hl hc hle hr C.w;refine .pure hR h2 ?_;simp[execOp,hop,hu',Instr.field,run_underlying hu,hfi,asAgg,h1]
  ·cases h
 ·cases h

theorem zlc(hop:o.op=.extract y i)(hy:zh y=some z)(h:aop (.ext z i) fr G=some (x,G'))(hR:Rl C G)(hF:FrR C nt fr a):OpOk P C a o x G':=by
 simp only[aop]at h;split at h
 ·rename_i vs hv;obtain⟨r,hr,h4⟩:=Option.map_eq_some_iff.1 h;injection h4 with h4 h5;subst h4 h5;have hx:=jz hF hy hv;obtain⟨u,hu'⟩:∃u,a.eval y=u:=⟨_,rfl⟩;rw[hu']at hx
  cases hx with
  |tup hl hc=>
   obtain⟨hi,rfl⟩:=List.getElem?_eq_some_iff.1 hr;refine .pure hR (hc i hi) ?_;simp[execOp,hop,hu',Instr.extract,hl,hi]
 ·cases h

variable {q:Operand}{q':Opd}
theorem jlc(hop:o.op=.index t y q)(ht:P.underlying t=some .string)(hy:zh y=some z)(hq:zh q=some q')(h:aop (.idx z q') fr G=some (x,G'))(hR:Rl C G)(hF:FrR C nt fr a):OpOk P C a o x G':=by
 simp only[aop]at h;split at h
 ·rename_i s k n hv hn;split at h
  ·rename_i h0;obtain⟨r,hr,h4⟩:=Option.map_eq_some_iff.1 h;injection h4 with h4 h5;subst h4 h5;have hx:=z7 hF hy hv;have hx2:=z7 hF hq hn;obtain⟨u,hu⟩:∃u,a.eval y=u:=⟨_,rfl⟩;obtain⟨u2,hu2⟩:∃u,a.eval q=u:=⟨_,rfl⟩;rw[hu]at hx;rw[hu2]at hx2;obtain rfl:=jes hx;obtain rfl:=zba hx2;have hg:(⟨s.toArray⟩:ByteArray)[n.toNat]?=some r:=by
    obtain⟨hi,rfl⟩:=List.getElem?_eq_some_iff.1 hr;have hsz:n.toNat<(⟨s.toArray⟩:ByteArray).size:=hi;rw[getElem?_pos (⟨s.toArray⟩:ByteArray) n.toNat hsz]
    rfl
   refine .pure hR (.c (.int _ _)) ?_;simp only[execOp,hop,hu,hu2,Instr.index,asIntOf,Sem.run_bind,Sem.run_pure,Result.andThen_ok,run_underlying ht,if_pos h0];rw[hg];simp
  ·cases h
 ·cases h

theorem zkw{e:TypeId}{n:Nat}{g:Bool}(hop:o.op=.index t y q)(ht:P.underlying t=some (.array n e))(hg:jbw P e=some g)(hs:ww P e=some s)(hy:zh y=some z)(hq:zh q=some q')(h:aop (.idxa g n s z q') fr G=some (x,G'))(hR:Rl C G)(hF:FrR C nt fr a):OpOk P C a o x G':=by
 simp only[aop]at h;split at h
 ·rename_i cs k j hv hn;split at h
  ·rename_i hc;obtain⟨h0,h1,h2⟩:=hc;obtain⟨r,hr,h4⟩:=Option.map_eq_some_iff.1 h;injection h4 with h4 h5;subst h4 h5;have hx:=jz hF hy hv;have hx2:=z7 hF hq hn;obtain⟨u,hu⟩:∃u,a.eval y=u:=⟨_,rfl⟩;obtain⟨u2,hu2⟩:∃u,a.eval q=u:=⟨_,rfl⟩;rw[hu]at hx;rw[hu2]at hx2;obtain rfl:=zba hx2
   cases hx with
   |agg hl hcc=>
    obtain⟨w',h3,h4⟩:=wgy hg hs hl hcc h2 hr C.w;refine .pure hR h4 ?_;simp[execOp,hop,hu,hu2,Instr.index,asIntOf,run_underlying ht,h0,h1,w9 hs,h3]
  ·cases h
 ·cases h

theorem jj3{e:TypeId}(hop:o.op=.indexAddr t y q)(ht:P.underlying t=some (.slice e))(hs:ww P e=some s)(hs0:0<s)(hy:zh y=some z)(hq:zh q=some q')(h:aop (.iaddr s z q') fr G=some (x,G'))(hR:Rl C G)(hF:FrR C nt fr a):OpOk P C a o x G':=by
 simp only[aop]at h;split at h
 ·rename_i c k n hv hn;obtain⟨r,hr,h4⟩:=Option.map_eq_some_iff.1 h;injection h4 with h4 h5;subst h4 h5;have hx:=z7 hF hy hv;have hx2:=z7 hF hq hn;obtain⟨u,hu⟩:∃u,a.eval y=u:=⟨_,rfl⟩;obtain⟨u2,hu2⟩:∃u,a.eval q=u:=⟨_,rfl⟩;rw[hu]at hx;rw[hu2]at hx2;obtain rfl:=zba hx2;unfold zgy at hr;split at hr
  ·rename_i h0;have run:∀b o' len cap,u=.slice (some ⟨b,o',none⟩) len cap->n<len->(execOp a.eval o).run P C.w=.ok (.value (.pointer (some ⟨b,o'+n.toNat*s,none⟩))) C.w:=by
    intro b o' len cap e hlt;simp[execOp,hop,hu,hu2,e,Instr.indexAt,asIntOf,run_underlying ht,h0,hlt,w9 hs,za8]
   split at hr
   ·rename_i es;split at hr
    ·rename_i e' he;split at hr
     ·rename_i hl;injection hr with hr;subst hr;obtain⟨hi,rfl⟩:=List.getElem?_eq_some_iff.1 he
      cases hx with
      |fz0=>simp at hi
      |fz _ b o' cap sz vs hlb hM hc hss cell hh=>
       have:sz=s:=by rw[<-hss _ hi];exact hl
       subst this;refine .pure hR (.c (.fp _ b (o'+n.toNat*sz) (λj=>vs n.toNat j) hlb hM (λj hj=>?_) (λj hj=>hh _ _ hi hj))) (run b o' _ _ rfl O);have:=cell n.toNat j hi (by rw[<-hl];exact hj);rwa [Nat.add_assoc]
     ·cases hr
    ·cases hr
   ·rename_i id v i m c;split at hr
    ·rename_i hlt;split at hr
     ·rename_i v' es hg;split at hr
      ·rename_i e;subst e;split at hr
       ·rename_i e' he;split at hr
        ·rename_i hl;injection hr with hr;subst hr;obtain⟨hi,rfl⟩:=List.getElem?_eq_some_iff.1 he
         cases hx with
         |sl0=>omega
         |sl _ _ _ _ _ cap hF' hn' hcc hv' hk=>
          have hne:es≠[]:=by intro e;subst e;simp at hi
          obtain⟨cs,t',hb,hz,hl',_⟩:=hR.blk id v' es hg hne;have hss:(C.μ id v').s=s:=by rw[<-hl' _ hi];exact hl
          refine .pure hR (.c (.ptr id v' (i+n.toNat) 0 hF' hv')) ?_;rw[run _ _ _ _ rfl O];rw[hss]
          congr 4
          simp only[Addr.mk.injEq,true_and,and_true];rw[yaxq];omega
        ·cases hr
       ·cases hr
      ·cases hr
     ·cases hr
    ·cases hr
   ·cases hr
  ·cases hr
 ·cases h

theorem jkw{e:TypeId}{n:Nat}(hop:o.op=.indexAddr t y q)(ht:P.underlying t=some (.array n e))(hs:ww P e=some s)(hy:zh y=some z)(hq:zh q=some q')(h:aop (.iarr n s z q') fr G=some (x,G'))(hR:Rl C G)(hF:FrR C nt fr a):OpOk P C a o x G':=by
 obtain⟨u,hu⟩:∃u,a.eval y=u:=⟨_,rfl⟩;obtain⟨u2,hu2⟩:∃u,a.eval q=u:=⟨_,rfl⟩;have run:∀b o' k j,u=.pointer (some ⟨b,o',none⟩)->u2=.int k j->0<=j->j<n->(execOp a.eval o).run P C.w=.ok (.value (.pointer (some ⟨b,o'+j.toNat*s,none⟩))) C.w:=by
  intro b o' k j e e2 h0 h1;simp[execOp,hop,hu,hu2,e,e2,Instr.indexAt,asIntOf,run_underlying ht,h0,h1,w9 hs,za8,Instr.sureAddr]
 simp only[aop]at h;split at h
 ·rename_i cs k j hv hn;split at h
  ·rename_i hc;obtain⟨h0,h1,h2⟩:=hc;injection h with h;injection h with h4 h5;subst h4 h5;have hx:=z7 hF hy hv;have hx2:=z7 hF hq hn;rw[hu]at hx;rw[hu2]at hx2;obtain⟨b,o',rfl⟩:=wkp hx;exact .pure hR (.c (wi5 hx h2)) (run b o' _ _ rfl (zba hx2) h0 h1)
  ·cases h
 ·rename_i id v i k kk j hv hn;split at h
  ·rename_i hc;obtain⟨h0,h1⟩:=hc;injection h with h;injection h with h4 h5;subst h4 h5;have hx:=z7 hF hy hv;have hx2:=z7 hF hq hn;rw[hu]at hx;rw[hu2]at hx2;obtain⟨rfl,hFF,hvv⟩:=jga hx;refine .pure hR (.c (.ptr id v i (k+j.toNat*s) hFF hvv)) ?_;rw[run _ _ _ _ rfl (zba hx2) h0 h1]
   congr 4
   simp;omega
  ·cases h
 ·cases h

theorem arr1{α:Type}{xs:Array α}{y:α}(h:xs.toList=[y]):xs=#[y]:=by cases xs;simp_all
theorem arr2{α:Type}{xs:Array α}{y z:α}(h:xs.toList=[y,z]):xs=#[y,z]:=by cases xs;simp_all

theorem zkq{c:Call}(hop:o.op=.call c)(hcal:c.callee=.builtin .len)(ha:c.args.toList=[y])(hat:c.argTypes.toList=[t]){str:Bool}(ht:(str=true/\P.underlying t=some .string)\/(str=false/\∃e,P.underlying t=some (.slice e)))(hy:zh y=some z)
 (h:aop (.len str z) fr G=some (x,G')) (hR:Rl C G) (hF:FrR C nt fr a):OpOk P C a o x G':=by
 have hargs:=arr1 ha;have htys:=arr1 hat;obtain⟨u,hu⟩:∃u,a.eval y=u:=⟨_,rfl⟩;have run:∀r,(Builtin.len_ #[t] o.type #[u]).run P C.w=.ok r C.w->(execOp a.eval o).run P C.w=.ok (.value r) C.w:=by
  intro r hr;simp[execOp,hop,resolve,hcal,hargs,htys,invoke,builtin,hu,hr]
 simp only[aop]at h;rcases ht with⟨rfl,ht⟩|⟨rfl,e,he⟩
 ·split at h<;>(try simp only[if_true]at h)<;>try(cases h;done)
  rename_i s hv;injection h with h;injection h with h4 h5;subst h4 h5;have hx:=z7 hF hy hv;rw[hu]at hx;obtain rfl:=jes hx;exact .pure hR (.c (.int _ _)) (run _ (by simp[Builtin.len_,run_underlying ht,goInt];rfl))
 ·split at h<;>(try simp only[Bool.false_eq_true,if_false]at h)<;>try(cases h;done)
  ·rename_i es hv;injection h with h;injection h with h4 h5;subst h4 h5;have hx:=z7 hF hy hv;rw[hu]at hx;refine .pure (v:=.int .i64 es.length) hR (.c (.int _ _)) (run _ ?_)
   cases hx<;>simp[Builtin.len_,run_underlying he,goInt]
  ·rename_i id v i n c hv;injection h with h;injection h with h4 h5;subst h4 h5;have hx:=z7 hF hy hv;rw[hu]at hx;refine .pure (v:=.int .i64 n) hR (.c (.int _ _)) (run _ ?_)
   cases hx<;>simp[Builtin.len_,run_underlying he,goInt]
  ·rename_i hv;injection h with h;injection h with h4 h5;subst h4 h5;have hx:=z7 hF hy hv;rw[hu]at hx;refine .pure (v:=.int .i64 0) hR (.c (.int _ _)) (run _ ?_)
   cases hx<;>simp[Builtin.len_,run_underlying he,goInt]
  ·rename_i hv;injection h with h;injection h with h4 h5;subst h4 h5;have hx:=z7 hF hy hv;rw[hu]at hx;refine .pure (v:=.int .i64 0) hR (.c (.int _ _)) (run _ ?_)
   cases hx<;>simp[Builtin.len_,run_underlying he,goInt]

theorem wlc{c:Call}{mx:Bool}(hop:o.op=.call c)(hcal:c.callee=.builtin (if mx then .max else .min))(ha:c.args.toList=[y,q])(hy:zh y=some z)(hq:zh q=some q')(h:aop (.mm mx z q') fr G=some (x,G'))(hR:Rl C G)(hF:FrR C nt fr a):OpOk P C a o x G':=by
 have hargs:=arr2 ha;obtain⟨u,hu⟩:∃u,a.eval y=u:=⟨_,rfl⟩;obtain⟨u2,hu2⟩:∃u,a.eval q=u:=⟨_,rfl⟩;simp only[aop]at h;split at h
 ·rename_i k m k' n hv hn;injection h with h;injection h with h4 h5;subst h4 h5;have hx:=z7 hF hy hv;have hx2:=z7 hF hq hn;rw[hu]at hx;rw[hu2]at hx2;obtain rfl:=zba hx;obtain rfl:=zba hx2;refine .pure hR (.c (.int _ _)) ?_
  cases mx
  ·simp[execOp,hop,resolve,hcal,hargs,invoke,builtin,hu,hu2,Builtin.min_,Builtin.min2]
  ·simp[execOp,hop,resolve,hcal,hargs,invoke,builtin,hu,hu2,Builtin.max_,Builtin.max2]
 ·cases h

end
end Go.Proofs.YtedaadaaibofaaaGreat.Am
namespace Go.Proofs.YtedaadaaibofaaaGreat.Am
open Go.RowKit

section
variable {P:Program}{nt:Nat}{C:Cx}{G G':jb}{fr:Fr}{a:Act}{o:Oper}{x:AV}

theorem Rl.Mlt(hR:Rl C G){b:Nat}(h:C.M b):b<C.w.heap.size:=by
 obtain⟨id,v,es,hg,hne,rfl⟩:=(hR.M b).1 h;obtain⟨cs,t,hb,_⟩:=hR.blk id v es hg hne;exact lt_of_block hb
theorem Rl.grow(hR:Rl C G)(w':World)(os:w'.os=C.w.os)(tape:w'.tape=C.w.tape)(output:w'.output=C.w.output)(size:C.w.heap.size<=w'.heap.size)(keep:∀b,b<C.w.heap.size->w'.heap[b]?=C.w.heap[b]?):
 Rl {C with w:=w'} G/\C.Le {C with w:=w'}:=by
 have hle:C.Le {C with w:=w'}:=⟨λ_ _ h=>⟨h,rfl⟩,os,tape,output,size,λb hb _=>keep b hb,λb cs t hc=>⟨cs,by rw[show({C with w:=w'}:Cx).w.heap[b]?=w'.heap[b]? from rfl,keep b (lt_of_block hc)];exact hc,rfl⟩,λb _ h=>h⟩;refine⟨⟨hR.F,hR.live,hR.M,hR.inj,λid v es hg hne=>?_⟩,hle⟩;obtain⟨cs,t,hb,hz,hl,hc⟩:=hR.blk id v es hg hne;refine⟨cs,t,by rw[show({C with w:=w'}:Cx).w.heap[(C.μ id v).b]?=w'.heap[(C.μ id v).b]? from rfl,keep _ (lt_of_block hb)];exact hb,hz,hl,λi j hi hj=>?_⟩;obtain⟨u,h1,h2⟩:=hc i j hi hj;exact⟨u,h1,h2.mono hle⟩
theorem wax(w:World)(o:Obj)(b:Nat)(hb:b<w.heap.size):(w.heap.push o)[b]?=w.heap[b]?:=by rw[Array.getElem?_push,if_neg O]
theorem jbf(w:World)(o:Obj):(w.heap.push o)[w.heap.size]?=some o:=gx

variable {t:TypeId}
theorem zld{fz:Bool}{y:Operand}{z:Opd}(hop:o.op=.box t y)(hy:zh y=some z)(h:aop (.box fz z) fr G=some (x,G'))(hR:Rl C G)(hF:FrR C nt fr a):OpOk P C a o x G':=by
 simp only[aop]at h;split at h
 ·rename_i cs hcs;obtain⟨v,hv,hcs⟩:=Option.bind_eq_some_iff.1 hcs;have hx:=jz hF hy hv;obtain⟨u,hu⟩:∃u,a.eval y=u:=⟨_,rfl⟩;rw[hu]at hx;obtain⟨hl,hc⟩:=wb6 hx hcs;have run:(execOp a.eval o).run P C.w=.ok (.value (.pointer (some ⟨C.w.heap.size,0,none⟩))) {C.w with heap:=C.w.heap.push (.cells u.cells t)}:=by
   simp[execOp,hop,hu,Instr.box,newVar,newRow]
  split at h
  ·injection h with h;injection h with h1 h2;subst h1 h2;obtain⟨hR',hle⟩:=hR.grow {C.w with heap:=C.w.heap.push (.cells u.cells t)} rfl rfl rfl gx (λb hb=>wax _ _ _ hb);refine⟨_,.pointer (some ⟨C.w.heap.size,0,none⟩),hR',hle,.c (.fp cs C.w.heap.size 0 (λj=>u.cells.getD j undef) gx (λhm=>?_) (λj hj=>?_) (λj hj=>?_)),.inl run⟩
   ·have:=hR.Mlt hm;omega
   ·have hj':j<u.cells.size:=O;simp[World.cell?,hj']
   ·have hj':j<u.cells.size:=O;have:=(hc j hj hj').mono hle;simpa [hj']using this
  ·injection h with h;injection h with h1 h2;subst h1 h2
   obtain⟨D,hw,hR',hle,hFn,hμ⟩:=hR.fresh [cs] cs.length C.w.heap.size {C.w with heap:=C.w.heap.push (.cells u.cells t)} rfl rfl rfl gx (λb hb=>wax _ _ _ hb)
    (λi hi=>by simp at hi;subst hi;rfl) (λ_=>⟨Nat.le_refl _,u.cells,t,gx,by simp;omega,λi j hi hj=>by
      simp at hi;subst hi;simp at hj;have hj':j<u.cells.size:=O;exact⟨u.cells[j],by simp[hj'],hc j hj hj'⟩⟩)
   refine⟨D,.pointer (some ⟨C.w.heap.size,0,none⟩),hR',hle, ?_,.inl (by rw[hw];exact run)⟩;have:=Rp.ptr (C:=D) G.next 0 0 0 hFn (by rw[hμ];rfl);rw[hμ]at this;exact .c (by simpa using this)
 ·cases h

theorem wj3{z:List Ce}(hop:o.op=.alloc t)(hz:wap P t=some z)(h:aop (.alloc z) fr G=some (x,G'))(hR:Rl C G):OpOk P C a o x G':=by
 obtain⟨u,hu,hcs⟩:=zb7 hz;obtain⟨hl,hc⟩:=jam (C:=C) hcs;simp only[aop]at h;injection h with h;injection h with h1 h2;subst h1 h2;have run:(execOp a.eval o).run P C.w=.ok (.value (.pointer (some ⟨C.w.heap.size,0,none⟩))) {C.w with heap:=C.w.heap.push (.cells u.cells t)}:=by
  simp[execOp,hop,hu,Instr.alloc,newVar,newRow]
 have hl':u.cells.size=z.length:=by simpa using hl
 obtain⟨D,hw,hR',hle,hFn,hμ⟩:=hR.fresh [z] z.length C.w.heap.size {C.w with heap:=C.w.heap.push (.cells u.cells t)} rfl rfl rfl gx (λb hb=>wax _ _ _ hb)
  (λi hi=>by simp at hi;subst hi;rfl) (λ_=>⟨Nat.le_refl _,u.cells,t,gx,by simp;omega,λi j hi hj=>by
    simp at hi;subst hi;simp at hj;have hj':j<u.cells.size:=O;exact⟨u.cells[j],by simp[hj'],by have:=hc j hj (by simpa using hj');simpa using this⟩⟩)
 refine⟨D,.pointer (some ⟨C.w.heap.size,0,none⟩),hR',hle, ?_,.inl (by rw[hw];exact run)⟩;have:=Rp.ptr (C:=D) G.next 0 0 0 hFn (by rw[hμ];rfl);rw[hμ]at this;exact .c (by simpa using this)

theorem jgz(vs:List Value):∀(k off:Nat) (cs:Array Value),off+k+vs.length<=cs.size->
 ((vs.zipIdx k).foldl (λcs p=>cs.setIfInBounds (off+p.2) p.1) cs).size=cs.size/\
 ∀i,((vs.zipIdx k).foldl (λcs p=>cs.setIfInBounds (off+p.2) p.1) cs)[i]?=if off+k<=i/\i<off+k+vs.length then vs[i-(off+k)]? else cs[i]?:=by
 induction vs with
 |nil=>intro k off cs h;simp;intro i h1 h2;omega
 |cons v vs ih=>
  intro k off cs h;simp only[List.length_cons]at h;simp only[List.zipIdx_cons,List.foldl_cons];obtain⟨h1,h2⟩:=ih (k+1) off (cs.setIfInBounds (off+k) v) gq;refine⟨by rw[h1];simp,λi=>?_⟩;rw[h2 i];simp only[List.length_cons];by_cases e:i=off+k
  ·subst e;rw[if_neg O,if_pos O];simp[show off+k<cs.size by omega]
  ·by_cases e2:off+(k+1)<=i/\i<off+(k+1)+vs.length
   ·rw[if_pos e2,if_pos O];rw[show i-(off+k)=(i-(off+(k+1)))+1 by omega];simp
   ·rw[if_neg e2,if_neg O];rw[Array.getElem?_setIfInBounds_ne O]

theorem zap{α:Type}(l:List α)(k:Nat)(y:List α)(h:k+y.length<=l.length)(i:Nat):(jh l k y)[i]?=if k<=i/\i<k+y.length then y[i-k]? else l[i]?:=by
 unfold jh;have hk:(l.take k).length=k:=by simp;omega
 by_cases h1:i<k
 ·rw[if_neg O,ybn,yba O,List.getElem?_take_of_lt h1]
 ·by_cases h2:i<k+y.length
  ·rw[if_pos O,ybn,ybq O,hk,yba O]
  ·rw[if_neg O,ybq gq];rw[List.getElem?_drop]
   congr 1
   simp;omega
theorem wo{α:Type}(l:List α)(k:Nat)(y:List α)(h:k+y.length<=l.length):(jh l k y).length=l.length:=by
 simp[jh];omega

theorem jfy(hF:FrR C nt fr a){pl:Nat->Option (Nat×Nat)}:∀{ps:List (Nat×Operand)} {qs:List (Nat×Nat×Opd)} {zc cs:List Ce} {zv:Array Value},zdv pl ps=some qs->wgx fr zc qs=some cs->zv.size=zc.length->
 (∀i (hi:i<zc.length),Rp C zc[i] (zv.getD i undef))->∃vs,Instr.fill pl zv (ps.map λp=>(p.1,a.eval p.2))=some vs/\vs.size=cs.length/\∀i (hi:i<cs.length),Rp C cs[i] (vs.getD i undef)
 |[],qs,zc,cs,zv,h1,h2,hl,hr=>by
  simp[zdv]at h1;subst h1;simp[wgx]at h2;subst h2;exact⟨zv,by simp[Instr.fill],hl,hr⟩
 |(i,y)::ps,qs,zc,cs,zv,h1,h2,hl,hr=>by
  simp only[zdv]at h1;split at h1
  ·rename_i off s z l e1 e2 e3;injection h1 with h1;subst h1;simp only[wgx]at h2;split at h2
   ·rename_i cc hcc;split at h2
    ·rename_i hc;obtain⟨rfl,hle⟩:=hc;obtain⟨v,hv,hcc⟩:=Option.bind_eq_some_iff.1 hcc;obtain⟨hcl,hcr⟩:=wb6 (jz hF e2 hv) hcc;obtain⟨f1,f2⟩:=jgz (a.eval y).cells.toList 0 off zv gq;have hfold:(a.eval y).cells.zipIdx.foldl (λcs p=>cs.setIfInBounds (off+p.2) p.1) zv=((a.eval y).cells.toList.zipIdx 0).foldl (λcs p=>cs.setIfInBounds (off+p.2) p.1) zv:=by
      rw[<-Array.foldl_toList];simp
     obtain⟨vs,h3,h4,h5⟩:=jfy (zv:=(a.eval y).cells.zipIdx.foldl (λcs p=>cs.setIfInBounds (off+p.2) p.1) zv) hF e3 h2 (by rw[hfold,f1,wo _ _ _ hle];exact hl) (by
      intro k hk;rw[wo _ _ _ hle]at hk;have g1:=zap zc off cc hle k;have g2:=f2 k;rw[hfold];simp only[Nat.add_zero,Array.length_toList,hcl]at g2;have hget:(jh zc off cc)[k]?=some (jh zc off cc)[k]:=yag _;rw[hget]at g1;by_cases hin:off<=k/\k<off+cc.length
      ·rw[if_pos hin]at g1 g2;have hlt:k-off<cc.length:=O;rw[yag hlt]at g1;injection g1 with g1;rw[g1];have hlt2:k-off<(a.eval y).cells.size:=O;rw[Array.getElem?_toList,Array.getElem?_eq_getElem hlt2]at g2;simp only[Array.getD_eq_getD_getElem?,g2,Option.getD_some];exact hcr _ hlt hlt2
      ·rw[if_neg hin]at g1 g2;rw[yag hk]at g1;injection g1 with g1;rw[g1];have:=hr k hk;simpa only[Array.getD_eq_getD_getElem?,g2]using this)
     refine⟨vs, ?_,h4,h5⟩;simp only[List.map_cons,Instr.fill,e1];rw[if_neg gq];exact h3
    ·cases h2
   ·cases h2
  ·cases h1

theorem zj4{ps:Array (Nat×Operand)}{z:List Ce}{pl:Nat->Option (Nat×Nat)}{qs:List (Nat×Nat×Opd)}(hop:o.op=.build t ps)(hz:wap P t=some z)(hpl:zhq P t=some pl)(hqs:zdv pl ps.toList=some qs)
 (h:aop (.build z qs) fr G=some (x,G')) (hR:Rl C G) (hF:FrR C nt fr a):OpOk P C a o x G':=by
 simp only[aop]at h;obtain⟨cs,hcs,h2⟩:=Option.map_eq_some_iff.1 h;injection h2 with h2 h3;subst h2 h3;have hz':=hz;unfold wap at hz';obtain⟨zv,hzv,hzc⟩:=Option.bind_eq_some_iff.1 hz';obtain⟨it,hit,hzv⟩:=Option.bind_eq_some_iff.1 hzv;obtain⟨hl,hc⟩:=jam (C:=C) hzc;obtain⟨vs,h3,h4,h5⟩:=jfy (C:=C) (a:=a) (zv:=zv.cells) hF hqs hcs (by simpa using hl) (λi hi=>by
  have hi':i<zv.cells.size:=by simp at hl;omega
  have:=hc i hi (by simpa using hi');simpa [hi']using this)
 have hb:P.built t (ps.map λ(i,x)=>(i,a.eval x)).toList=some vs:=by
  unfold zhq at hpl;unfold Program.built;split at hpl
  ·rename_i fs hu;obtain⟨l,hl,rfl⟩:=Option.map_eq_some_iff.1 hpl;simp only[hit,hu,hzv,hl];simpa using h3
  ·rename_i n e hu;obtain⟨s,hs,rfl⟩:=Option.map_eq_some_iff.1 hpl;unfold ww at hs;obtain⟨ie,hie,rfl⟩:=Option.map_eq_some_iff.1 hs;simp only[hit,hu,hzv,hie];simpa using h3
  ·cases hpl
 have hrun:=run_build (P:=P) C.w t _ vs hb;refine .pure (v:=.agg vs) hR (.agg h4 λi hi=>?_) ?_
 ·have hi':i<vs.size:=O;have:=h5 i hi;simpa [hi']using this
 ·simp only[execOp,hop];rw[Sem.run_bind,hrun]
  rfl

end
end Go.Proofs.YtedaadaaibofaaaGreat.Am
namespace Go.Proofs.YtedaadaaibofaaaGreat.Am
open Go.RowKit

section
variable {P:Program}{nt:Nat}{C:Cx}{G G':jb}{fr:Fr}{a:Act}{o:Oper}{x:AV}

def RelE(C:Cx)(s:Nat)(es:List (List Ce))(arr:Array Value):Prop:=
 es.length*s<=arr.size/\∀i (hi:i<es.length),es[i].length=s/\∀j (hj:j<es[i].length),Rp C es[i][j] (arr.getD (i*s+j) undef)
variable {s:Nat}
theorem RelE.at_{es:List (List Ce)}{arr:Array Value}(h:RelE C s es arr)(i j:Nat)(hi:i<es.length)(hj:j<es[i].length):∃u,arr[i*s+j]?=some u/\Rp C es[i][j] u:=by
 have hlt:i*s+j<es.length*s:=jbk hi (by have:=(h.2 i hi).1;omega);have h0:=h.1;refine⟨arr[i*s+j]'O,by simp[show i*s+j<arr.size by omega], ?_⟩;have:=(h.2 i hi).2 j hj;simpa [show i*s+j<arr.size by omega]using this

variable {z:List Ce}
theorem wdv{zv:Value}(hz:whp zv.cells.toList=some z)(n s:Nat)(hs:z.length=s)(hs0:0<s)(m:Nat)(hm:m=n*s):
 RelE C s (List.replicate n z) ((Array.range m).map (zv.cells[· %zv.cells.size]!)):=by
 obtain⟨hl,hc⟩:=jam (C:=C) hz;simp only[Array.length_toList]at hl hc;subst hm;refine⟨gx,λi hi=>?_⟩;simp only[List.length_replicate]at hi;refine⟨by simp[hs],λj hj=>?_⟩;have hz1:(List.replicate n z)[i]=z:=gx;have hj':j<z.length:=by simpa using hj
 have hlt:i*s+j<n*s:=jbk hi O;have h2:(i*s+j)%zv.cells.size=j:=by
  rw[hl,hs,Nat.mul_comm,Nat.mul_add_mod,Nat.mod_eq_of_lt O]
 have hjz:j<zv.cells.size:=O;have:=hc j hj' hjz;simp only[Array.getD_eq_getD_getElem?,Array.getElem?_map];rw[Array.getElem?_range,if_pos hlt];simp only[Option.map_some,Option.getD_some,h2,getElem!_pos zv.cells j hjz];simpa [hz1]using this

theorem jet(hF:FrR C nt fr a){s:Nat}:∀{ps:List (Nat×Operand)} {qs:List (Nat×Opd)} {e0 es:List (List Ce)} {arr:Array Value},jdv ps=some qs->wf9 fr s e0 qs=some es->arr.size=e0.length*s->RelE C s e0 arr->
 ∃vs,Instr.fill (λi=>some (i*s,s)) arr (ps.map λp=>(p.1,a.eval p.2))=some vs/\vs.size=es.length*s/\es.length=e0.length/\RelE C s es vs
 |[],qs,e0,es,arr,h1,h2,hl,hr=>by
  simp[jdv]at h1;subst h1;simp[wf9]at h2;subst h2;exact⟨arr,by simp[Instr.fill],hl,rfl,hr⟩
 |(i,y)::ps,qs,e0,es,arr,h1,h2,hl,hr=>by
  simp only[jdv]at h1;split at h1
  ·rename_i z l e2 e3;injection h1 with h1;subst h1;simp only[wf9]at h2;split at h2
   ·rename_i cc hcc;split at h2
    ·rename_i hc;obtain⟨hcs,hi⟩:=hc;obtain⟨v,hv,hcc⟩:=Option.bind_eq_some_iff.1 hcc;obtain⟨hcl,hcr⟩:=wb6 (jz hF e2 hv) hcc;have hbnd:i*s+s<=e0.length*s:=by
      have:(i+1)*s<=e0.length*s:=yapq _ hi;rw[yaxq]at this;omega
     obtain⟨f1,f2⟩:=jgz (a.eval y).cells.toList 0 (i*s) arr gq;have hfold:(a.eval y).cells.zipIdx.foldl (λcs p=>cs.setIfInBounds (i*s+p.2) p.1) arr=((a.eval y).cells.toList.zipIdx 0).foldl (λcs p=>cs.setIfInBounds (i*s+p.2) p.1) arr:=by
      rw[<-Array.foldl_toList];simp
     obtain⟨vs,h3,h4,h5,h6⟩:=jet (arr:=(a.eval y).cells.zipIdx.foldl (λcs p=>cs.setIfInBounds (i*s+p.2) p.1) arr) hF e3 h2 (by rw[hfold,f1];simpa using hl) (by
      refine⟨by rw[hfold,f1,hl];simp,λk hk=>?_⟩;simp only[List.length_set]at hk;by_cases e:k=i
      ·subst e;have he:(e0.set k cc)[k]'(by simpa using hk)=cc:=gx;refine⟨by rw[he];exact hcs,λj hj=>?_⟩;have hj':j<cc.length:=by rw[he]at hj;exact hj
       have g2:=f2 (k*s+j);rw[if_pos gq]at g2;rw[hfold];simp only[Nat.add_zero,show k*s+j-k*s=j by omega]at g2;rw[Array.getElem?_toList,Array.getElem?_eq_getElem (by omega:j<(a.eval y).cells.size)]at g2;simp only[Array.getD_eq_getD_getElem?,g2,Option.getD_some];have:=hcr j hj' O;simpa [he]using this
      ·have he:(e0.set i cc)[k]'(by simpa using hk)=e0[k]:=by rw[List.getElem_set];rw[if_neg O]
       obtain⟨q1,q2⟩:=hr.2 k hk;refine⟨by rw[he];exact q1,λj hj=>?_⟩;have hj':j<e0[k].length:=by rw[he]at hj;exact hj
       have g2:=f2 (k*s+j);have hout:¬(i*s+0<=k*s+j/\k*s+j<i*s+0+(a.eval y).cells.toList.length):=by
        simp only[Array.length_toList,hcl];rcases Nat.lt_or_gt_of_ne e with h|h
        ·have:(k+1)*s<=i*s:=yapq _ h;rw[yaxq]at this;omega
        ·have:(i+1)*s<=k*s:=yapq _ h;rw[yaxq]at this;omega
       rw[if_neg hout]at g2;rw[hfold];have:=q2 j hj';simp only[Array.getD_eq_getD_getElem?,g2];simpa [he]using this)
     refine⟨vs, ?_,h4,by simpa using h5,h6⟩;simp only[List.map_cons,Instr.fill];rw[if_neg gq];exact h3
    ·cases h2
   ·cases h2
  ·cases h1

theorem wga{D:Cx}{id b c:Nat}(n:Nat)(hF:D.F id 0)(hμ:D.μ id 0=⟨b,s,0,decide (c=0)⟩)(hn:n<=c){cap:Nat}(hc:c<=cap)(hc0:c=0->cap=0)(hk:0<c->∃cs t,D.w.heap[b]?=some (.cells cs t (0,0))/\cap*s<=cs.size):
 Rp D (.sl id 0 0 n c) (.slice (some ⟨b,0,none⟩) n cap):=by
 rcases ybd c with h0|h0
 ·have:=hc0 h0;subst h0 this;obtain rfl:n=0:=O;exact .sl0 _ _ _ _ hF
 ·obtain⟨cs,t,hb,hz⟩:=hk h0;have:=Rp.sl (C:=D) id 0 0 n c cap hF hn hc (by rw[hμ];simp;omega) (by rw[hμ];exact⟨cs,t,hb,by simpa using hz⟩);rw[hμ]at this;simpa using this

theorem wkw{t e:TypeId}{n:Nat}{ps:Array (Nat×Operand)}{qs:List (Nat×Opd)}{fz:Bool}(hop:o.op=.buildSlice t n ps)(ht:P.underlying t=some (.slice e))(hs:ww P e=some s)(hz:wap P e=some z)(hqs:jdv ps.toList=some qs)(hzl:z.length=s)(hs0:0<s)(hns:n*s<=65536)
 (h:aop (.mksl fz s n z qs) fr G=some (x,G')) (hR:Rl C G) (hF:FrR C nt fr a):OpOk P C a o x G':=by
 simp only[aop]at h;split at h
 ·rename_i es hes;obtain⟨zv,hzv,hzc⟩:=zb7 hz;have hrel:=wdv (C:=C) hzc n s hzl hs0 (n*s) rfl;obtain⟨vs,h3,h4,h5,h6⟩:=jet hF hqs hes gx hrel;simp only[List.length_replicate]at h5;have run:(execOp a.eval o).run P C.w=.ok (.value (.slice (some ⟨C.w.heap.size,0,none⟩) n n)) {C.w with heap:=C.w.heap.push (.cells vs e)}:=by
   have hbig:¬(16777216<n*s):=O;have hmap:(ps.map λ(i,x)=>(i,a.eval x)).toList=ps.toList.map λp=>(p.1,a.eval p.2):=gx;by_cases hn0:n*s=0
   ·have hn:n=0:=by
     rcases Nat.mul_eq_zero.1 hn0 with h|h
     ·exact h
     ·omega
    subst hn;simp only[Nat.zero_mul]at h3;simp only[execOp,hop,Instr.buildSlice,Sem.run_bind,run_underlying ht,w9 hs,Result.andThen_ok,Nat.zero_mul,hmap];have e0:∀f:Nat->Value,Array.map f (Array.range 0)=#[]:=λf=>gx;rw[e0]at h3;simp only[if_true,pure_bind,e0];simp[h3,newRow]
   ·simp only[execOp,hop,Instr.buildSlice,Sem.run_bind,run_underlying ht,w9 hs,Result.andThen_ok,hmap,Sem.run_ite,if_neg hn0,hzv,Sem.run_pure];simp[hbig,hn0,hzv,h3,newRow]
  split at h
  ·injection h with h;injection h with h1 h2;subst h1 h2;obtain⟨hR',hle⟩:=hR.grow {C.w with heap:=C.w.heap.push (.cells vs e)} rfl rfl rfl gx (λb hb=>wax _ _ _ hb);refine⟨_,.slice (some ⟨C.w.heap.size,0,none⟩) n n,hR',hle, ?_,.inl run⟩;have hlen:es.length=n:=h5
   have:=Rp.fz (C:={C with w:={C.w with heap:=C.w.heap.push (.cells vs e)}}) es C.w.heap.size 0 n s (λi j=>vs.getD (i*s+j) undef) gx (λhm=>by have:=hR.Mlt hm;omega) O (λi hi=>(h6.2 i hi).1)
    (λi j hi hj=>by
      have hlt:=jbk (n:=n) (by omega:i<n) hj;have:i*s+j<vs.size:=by rw[h4,hlen];exact hlt
      simp[World.cell?,this])
    (λi j hi hj=>((h6.2 i hi).2 j hj).mono hle)
   rw[hlen]at this;exact .c this
  ·injection h with h;injection h with h1 h2;subst h1 h2
   obtain⟨D,hw,hR',hle,hFn,hμ⟩:=hR.fresh es s C.w.heap.size {C.w with heap:=C.w.heap.push (.cells vs e)} rfl rfl rfl gx (λb hb=>wax _ _ _ hb)
    (λi hi=>(h6.2 i hi).1) (λ_=>⟨yaf _,vs,e,gx,h6.1,λi j hi hj=>h6.at_ i j hi hj⟩)
   refine⟨D,.slice (some ⟨C.w.heap.size,0,none⟩) n n,hR',hle,.c (wga (s:=s) n hFn ?_ (Nat.le_refl _) (Nat.le_refl _) (λh=>h) (λ_=>⟨vs,e,by rw[hw];simp,by rw[h4,h5];exact Nat.le_refl _⟩)),.inl (by rw[hw];exact run)⟩;rw[hμ]
   congr 1
   rw[<-h5]
   cases es<;>simp
 ·cases h

theorem jiq{t e:TypeId}{i:TypeInfo}{lo co:Operand}{l' c':Opd}(hop:o.op=.makeSlice t lo co)(ht:P.underlying t=some (.slice e))(hs:ww P e=some s)(hz:wap P e=some z)(hi:P.info? e=some i)(hzl:z.length=s)(hs0:0<s)
 (hl:zh lo=some l') (hc:zh co=some c') (h:aop (.mkslice s i.bytes z l' c') fr G=some (x,G')) (hR:Rl C G) (hF:FrR C nt fr a) (hb0:0<i.bytes):OpOk P C a o x G':=by
 simp only[aop]at h;split at h
 ·rename_i l c hvl hvc;split at h
  ·rename_i hcnd;obtain⟨h0,hlc,hbytes⟩:=hcnd;injection h with h;injection h with h1 h2;subst h1 h2;have hx1:=z7 hF hl hvl;have hx2:=z7 hF hc hvc;obtain⟨u,hu⟩:∃u,a.eval lo=u:=⟨_,rfl⟩;obtain⟨u2,hu2⟩:∃u,a.eval co=u:=⟨_,rfl⟩;rw[hu]at hx1;rw[hu2]at hx2;obtain rfl:=zba hx1;obtain rfl:=zba hx2;have hsi:i.size=s:=by unfold ww at hs;rw[hi]at hs;simpa using hs
   have hz':=hz;unfold wap at hz';obtain⟨zv,hzv,hzc⟩:=Option.bind_eq_some_iff.1 hz';rw[hi]at hzv;simp only[Option.bind_some]at hzv;have h63:c<=9223372036854775807:=by
    have:(1:Int)*c<=i.bytes*c:=Int.mul_le_mul_of_nonneg_right O O;omega
   have hrun:=run_make (P:=P) C.w t e i zv ht hi hzv .i64 .i64 l c h0 hlc O h63;have run:(execOp a.eval o).run P C.w=.ok (.value (.slice (some ⟨C.w.heap.size,0,none⟩) l.toNat c.toNat)) (C.w.alloc (.cells (madeCells zv.cells (c.toNat*i.size)) e)):=by
    simp only[execOp,hop,hu,hu2];rw[Sem.run_bind,hrun]
    rfl
   rw[hsi]at run;have hrel:RelE C s (List.replicate c.toNat z) (madeCells zv.cells (c.toNat*s)):=wdv hzc c.toNat s hzl hs0 _ rfl
   obtain⟨D,hw,hR',hle,hFn,hμ⟩:=hR.fresh (List.replicate c.toNat z) s C.w.heap.size (C.w.alloc (.cells (madeCells zv.cells (c.toNat*s)) e)) rfl rfl rfl (by show _<=(Array.push _ _).size;simp) (λb hb=>wax _ _ _ hb)
    (λi hi=>(hrel.2 i hi).1) (λ_=>⟨yaf _,_,e,jbf _ _,hrel.1,λi j hi hj=>hrel.at_ i j hi hj⟩)
   refine⟨D,_,hR',hle,.c (wga (s:=s) l.toNat hFn ?_ O (Nat.le_refl _) (λh=>h) (λ_=>⟨_,e,by rw[hw];exact jbf _ _,by simp[madeCells]⟩)),.inl (by rw[hw];exact run)⟩;rw[hμ]
   congr 1
   cases hcn:c.toNat<;>simp[List.replicate_succ]
  ·cases h
 ·cases h

end
end Go.Proofs.YtedaadaaibofaaaGreat.Am
namespace Go.Proofs.YtedaadaaibofaaaGreat.Am
open Go.RowKit

section
variable {P:Program}{nt:Nat}{C:Cx}{G G':jb}{fr:Fr}{a:Act}{o:Oper}{x:AV}

def upd(cur:Array Value)(k:Nat)(vs:List Value):Array Value:=(cur.toList.take k++vs++cur.toList.drop (k+vs.length)).toArray
theorem zbt(cur:Array Value)(k:Nat)(vs:List Value)(h:k+vs.length<=cur.size):(upd cur k vs).size=cur.size:=by simp[upd];omega
theorem wet(cur:Array Value)(k:Nat)(vs:List Value)(h:k+vs.length<=cur.size)(i:Nat):(upd cur k vs)[i]?=if k<=i/\i<k+vs.length then vs[i-k]? else cur[i]?:=by
 have:=zap cur.toList k vs (by simpa using h) i;simpa [upd,jh]using this
theorem jcx{w:World}{g k:Nat}{t:TypeId}{vs:List Value}{cur:Array Value}(hg:w.heap[g]?=some (.cells cur t (0,0)))(h:k+vs.length<=cur.size)(h1:∀v∈vs,v.oneCell'=true):
 (storeCells ⟨g,k,none⟩ vs 0).run P w=.ok () (w.setRow g (upd cur k vs)):=run_storeCells_at (P:=P) g k t vs 0 cur w hg O h1

theorem Rl.wrote(hR:Rl C G){id v:Nat}{es:List (List Ce)}(hg:G.get id=some (v,es))(hne:es≠[])(es1:List (List Ce))(hlen:es1.length=es.length){cur:Array Value}{t:TypeId}(hb:C.w.heap[(C.μ id v).b]?=some (.cells cur t (0,0)))(cs1:Array Value)(hsz:cs1.size=cur.size)
 (hs:∀i (hi:i<es1.length),es1[i].length=(C.μ id v).s) (hc:∀i j (hi:i<es1.length) (hj:j<es1[i].length),∃u,cs1[(C.μ id v).base+(i*(C.μ id v).s+j)]?=some u/\Rp C es1[i][j] u):
 ∃D,D.w=C.w.setRow (C.μ id v).b cs1/\Rl D (G.put id (v,es1))/\C.Le D/\D.F id v/\D.μ id v=C.μ id v:=by
 obtain⟨lF,lV,lE⟩:=hR.live id v es hg;have hvirt:(C.μ id v).virt=false:=by
  cases hx:(C.μ id v).virt
  ·rfl
  ·exact absurd (lE.1 hx) hne
 obtain⟨cs,t',hb',hz,_,_⟩:=hR.blk id v es hg hne;rw[hb]at hb';injection hb' with hb';injection hb' with h1 h2;subst h1;refine hR.turned hg hne v es1 (C.μ id v) (C.w.setRow (C.μ id v).b cs1) cs1 t (.inl ⟨rfl,rfl⟩) hvirt (λe=>hne (yan (by rw[<-hlen,e];rfl))) rfl rfl rfl gx (.inl rfl) (λb hb hn=>setRow_other _ _ _ _ hn) (λcs t hc=>?_) (setRow_heap _ _ _ _ _ _ hb) (by rw[hlen,hsz];exact hz) hs hc;rw[hb]at hc;injection hc with hc;injection hc with h1 h2;subst h1 h2;exact⟨cs1,setRow_heap _ _ _ _ _ _ hb,hsz⟩

theorem jj4{t:TypeId}{s:Nat}{y q:Operand}{z q':Opd}(hop:o.op=.store t y q)(hs:ww P t=some s)(hy:zh y=some z)(hq:zh q=some q')(h:aop (.store s z q') fr G=some (x,G'))(hR:Rl C G)(hF:FrR C nt fr a):OpOk P C a o x G':=by
 simp only[aop]at h;split at h
 ·rename_i id v i j cs hv hcs;split at h
  ·rename_i v' es hg;split at h
   ·rename_i e;subst e;split at h
    ·rename_i e he;split at h
     ·rename_i hc;obtain⟨hcs',hje⟩:=hc;injection h with h;injection h with h1 h2;subst h1 h2;obtain⟨w1,hw1,hcs⟩:=Option.bind_eq_some_iff.1 hcs;obtain⟨hi,rfl⟩:=List.getElem?_eq_some_iff.1 he;have hx:=z7 hF hy hv;have hx2:=jz hF hq hw1;obtain⟨u,hu⟩:∃u,a.eval y=u:=⟨_,rfl⟩;obtain⟨u2,hu2⟩:∃u,a.eval q=u:=⟨_,rfl⟩;rw[hu]at hx;rw[hu2]at hx2;obtain⟨hcl,hcr⟩:=wb6 hx2 hcs;obtain⟨rfl,hFF,hvv⟩:=jga hx;have hne:es≠[]:=by intro e;subst e;simp at hi
      obtain⟨cur,t',hb,hz,hl,hcc⟩:=hR.blk id v' es hg hne;have hS:es[i].length=(C.μ id v').s:=hl i hi;have hend:(i+1)*(C.μ id v').s<=es.length*(C.μ id v').s:=yapq _ hi;rw[yaxq]at hend
      let k:=(C.μ id v').base+(i*(C.μ id v').s+j)
      have hkl:k+u2.cells.toList.length<=cur.size:=by simp only[k,Array.length_toList];omega
      have one:∀v∈u2.cells.toList,v.oneCell'=true:=by
       intro v hv;obtain⟨n,hn,rfl⟩:=ybr hv;simp only[Array.length_toList]at hn;have:=hcr n O hn;simpa using this.one'
      have hlen1:(jh es[i] j cs).length=(C.μ id v').s:=by rw[wo _ _ _ O];exact hS
      obtain⟨D,hw,hR',hle,_⟩:=hR.wrote hg hne (es.set i (jh es[i] j cs)) gx hb (upd cur k u2.cells.toList) (zbt _ _ _ hkl)
       (λm hm=>by
         simp only[List.length_set]at hm;rw[List.getElem_set];split
         ·exact hlen1
         ·exact hl m hm)
       (λm p hm hp=>by
         simp only[List.length_set]at hm;rw[wet _ _ _ hkl];simp only[Array.length_toList,hcl];by_cases e:i=m
         ·subst e;have eq:(es.set i (jh es[i] j cs))[i]'(by simpa using hm)=jh es[i] j cs:=gx;have hp':p<(jh es[i] j cs).length:=by rw[eq]at hp;exact hp
          have g:=zap es[i] j cs O p;rw[yag hp']at g;by_cases hin:j<=p/\p<j+cs.length
          ·rw[if_pos hin,yag (by omega:p-j<cs.length)]at g;injection g with g;rw[if_pos (by simp only[k];omega)];have hpk:(C.μ id v').base+(i*(C.μ id v').s+p)-k=p-j:=by simp only[k];omega
           rw[hpk,Array.getElem?_toList,Array.getElem?_eq_getElem (by omega:p-j<u2.cells.size)];refine⟨_,rfl, ?_⟩;have:=hcr (p-j) O O;rw[<-g]at this;simpa [eq]using this
          ·rw[if_neg hin,yag (by omega:p<es[i].length)]at g;injection g with g;rw[if_neg (by simp only[k];omega)];obtain⟨u,h1,h2⟩:=hcc i p hi O;exact⟨u,h1,by rw[<-g]at h2;simpa [eq]using h2⟩
         ·have eq:(es.set i (jh es[i] j cs))[m]'(by simpa using hm)=es[m]:=by rw[List.getElem_set];rw[if_neg e]
          have hp':p<es[m].length:=by rw[eq]at hp;exact hp
          have hpm:p<(C.μ id v').s:=by rw[<-hl m hm];exact hp'
          have hout:¬(k<=(C.μ id v').base+(m*(C.μ id v').s+p)/\(C.μ id v').base+(m*(C.μ id v').s+p)<k+cs.length):=by
           simp only[k];rcases Nat.lt_or_gt_of_ne e with h|h
           ·have:(i+1)*(C.μ id v').s<=m*(C.μ id v').s:=yapq _ h;rw[yaxq]at this;omega
           ·have:(m+1)*(C.μ id v').s<=i*(C.μ id v').s:=yapq _ h;rw[yaxq]at this;omega
          rw[if_neg hout];obtain⟨u,h1,h2⟩:=hcc m p hm hp';exact⟨u,h1,by simpa [eq]using h2⟩)
      refine⟨D,undef,hR',hle,.un _,.inr ⟨rfl, ?_⟩⟩;rw[hw];have hst:=jcx (P:=P) (w:=C.w) (k:=k) hb hkl one;have hszz:¬(u2.cells.size≠s):=O;simp only[execOp,hop,hu,hu2,Instr.storeAt,Instr.sureAddr,storeVar,Sem.run_bind,Sem.run_pure,Result.andThen_ok,w9 hs,Sem.run_ite,if_neg hszz];rw[show(C.μ id v').base+(i*(C.μ id v').s+j)=k from rfl,hst]
      rfl
     ·cases h
    ·cases h
   ·cases h
  ·cases h
 ·cases h

end
end Go.Proofs.YtedaadaaibofaaaGreat.Am
namespace Go.Proofs.YtedaadaaibofaaaGreat.Am
open Go.RowKit

section
variable {P:Program}{nt:Nat}{C:Cx}{G G':jb}{fr:Fr}{a:Act}{o:Oper}{x:AV}

structure App(C:Cx)(P:Program)(s:Nat)(tx:TypeId)(u:Value)(ys:List (List Ce))(news:List Value):Prop where
 src:Src P s tx u ys.length news C.w
 at_:∀i j (hi:i<ys.length) (hj:j<ys[i].length),∃v,news[i*s+j]?=some v/\Rp C ys[i][j] v

theorem wj4{n s:Nat}{ys:List (List Ce)}{vs:Nat->Nat->Value}(hn:ys.length=n)(hs:∀i (hi:i<ys.length),ys[i].length=s)(h:∀i j (hi:i<ys.length) (hj:j<ys[i].length),Rp C ys[i][j] (vs i j)):∀u∈flat n s vs,u.oneCell'=true:=by
 intro u hu;obtain⟨k,hk,rfl⟩:=ybr hu;obtain⟨h1,h2,_,h4⟩:=jer (yag hk);rw[h4];exact(h (k/s) (k%s) O (by rw[hs _ O];exact h2)).one'

theorem wfy(hR:Rl C G){y:Ce}{u:Value}(hy:Rp C y u){ys:List (List Ce)}(hys:G.els y=some ys){s:Nat}(hl:∀e∈ys,e.length=s){tx e':TypeId}(hk:(∃e',P.underlying tx=some (.slice e'))\/P.underlying tx=some .string):∃news,App C P s tx u ys news:=by
 obtain⟨ad,cap,rfl,hcap,hc⟩:=zdi hR hy hys;rcases hc with rfl|⟨b,o',sz,rfl,hsz,vs,hvs⟩
 ·refine⟨[],⟨⟨hk,λ_=>rfl, ?_, ?_,gx,λ_ h=>by cases h⟩,λi j hi=>absurd hi gx⟩⟩
  ·cases ad<;>simp[Builtin.firstCells,loadCells,loadCellsFrom]
  ·cases ad<;>simp[Builtin.firstCells,loadCells,loadCellsFrom]
 ·rcases ybd ys.length with h0|h0
  ·obtain rfl:=yan h0;exact⟨[],⟨⟨hk,λ_=>rfl,by simp[Builtin.firstCells,loadCells,loadCellsFrom],by simp[Builtin.firstCells,loadCells,loadCellsFrom],gx,λ_ h=>by cases h⟩,λi j hi=>absurd hi gx⟩⟩
  ·have hss:sz=s:=by rw[<-hsz 0 h0];exact hl _ (yaa _)
   subst hss;have hcell:∀k v,(flat ys.length sz vs)[k]?=some v->C.w.cell? ((⟨b,o',none⟩:Addr).add k)=some v:=by
    intro k v hkv;obtain⟨h1,h2,h3,rfl⟩:=jer hkv;rw[za8,h3];have e1:(k/sz*sz+k%sz)/sz=k/sz:=by rw[<-h3]
    have e2:(k/sz*sz+k%sz)%sz=k%sz:=by rw[<-h3]
    rw[e1,e2];exact(hvs (k/sz) (k%sz) h1 (by rw[hsz _ h1];exact h2)).1
   refine⟨flat ys.length sz vs,⟨⟨hk,λ_=>rfl,run_firstCells_some C.w sz _ _ _ cap _ (za5 _ _ _) hcell,run_firstCells_some C.w.drew sz _ _ _ cap _ (za5 _ _ _) (by simpa using hcell),za5 _ _ _,wj4 rfl hsz (λi j hi hj=>(hvs i j hi hj).2)⟩,λi j hi hj=>⟨vs i j,zig _ _ _ hi (by rw[<-hsz i hi];exact hj),(hvs i j hi hj).2⟩⟩⟩
theorem wiq{l:List UInt8}{tx:TypeId}(hk:(∃e',P.underlying tx=some (.slice e'))\/P.underlying tx=some .string):∃news,App C P 1 tx (.string ⟨l.toArray⟩) (l.map λb=>[.int .u8 b.toNat]) news:=by
 refine⟨byteCells ⟨l.toArray⟩,⟨⟨hk,λ_=>by simp[Builtin.lenOf];rfl, ?_, ?_,by rw[byteCells_length];simp;rfl,λu hu=>?_⟩,λi j hi hj=>?_⟩⟩
 ·have:=firstCells_string (P:=P) ⟨l.toArray⟩ C.w;rw[yae];exact this
 ·have:=firstCells_string (P:=P) ⟨l.toArray⟩ C.w.drew;rw[yae];exact this
 ·obtain⟨_,_,rfl⟩:=List.mem_map.1 hu
  rfl
 ·simp only[List.length_map]at hi;simp only[List.getElem_map,List.length_cons,List.length_nil]at hj;obtain rfl:j=0:=O;refine⟨.int .u8 l[i].toNat, ?_, ?_⟩
  ·simp[byteCells,hi]
  ·simp only[List.getElem_map,List.getElem_cons_zero];exact .int _ _

variable {i:TypeInfo}
theorem wc6{w:World}{t tx ty e:TypeId}(ht:P.underlying t=some (.slice e))(hi:P.info? e=some i){b off sLen sCap n:Nat}{u:Value}{news:List Value}(hs:Src P i.size tx u n news w)(hroom:sLen+n<=sCap){cur:Array Value}{t':TypeId}(hg:w.heap[b]?=some (.cells cur t' (0,0)))(hl:off+sLen*i.size+news.length<=cur.size):
 (Builtin.append_ #[t,tx] ty #[.slice (some ⟨b,off,none⟩) sLen sCap,u]).run P w=.ok (.slice (some ⟨b,off,none⟩) (sLen+n) sCap) (w.setRow b (upd cur (off+sLen*i.size) news)):=by
 have hst:=jcx (P:=P) (w:=w) (k:=off+sLen*i.size) hg hl hs.one;rcases hs.kind with⟨e',hk⟩|hk<;>simp[Builtin.append_,run_underlying ht,run_underlying hk,sizeOf,typeInfo,hi,hs.len,hroom,hs.cells,za8,hst]

theorem zdw{α:Type}(l:List α)(k:Nat):jh l k []=l:=by simp[jh]

theorem zfz{s bytes:Nat}{t tx ty e:TypeId}{z:List Ce}(ht:P.underlying t=some (.slice e))(hi:P.info? e=some i)(hs:ww P e=some s)(hz:wap P e=some z)(hzl:z.length=s)(hs0:0<s)(hb:i.bytes=bytes)(hb0:0<bytes)
 {c r:Ce} {ys:List (List Ce)} (h:appA G s bytes c ys=some (r,G')) (hR:Rl C G) {v u:Value} (hc:Rp C c v) {news:List Value} (hsrc:App C P s tx u ys news):
 ∃D v',Rl D G'/\C.Le D/\Rp D r v'/\(Builtin.append_ #[t,tx] ty #[v,u]).run P C.w=.ok v' D.w:=by
 have hsi:i.size=s:=by unfold ww at hs;rw[hi]at hs;simpa using hs
 have hz':=hz;unfold wap at hz';obtain⟨zv,hzv,hzc⟩:=Option.bind_eq_some_iff.1 hz';rw[hi]at hzv;simp only[Option.bind_some]at hzv;have hzs:zv.cells.size=s:=by
  obtain⟨hl,_⟩:=jam (C:=C) hzc;simp at hl;omega
 unfold appA at h;split at h
 case isFalse=>cases h
 case isTrue hys=>
 have hnl:news.length=ys.length*s:=hsrc.src.newsLen
 -- a new row
 have grow:∀{base:Option Addr} {n cap:Nat} {olds:List Value} {old:List (List Ce)},v=.slice base n cap->cap<n+ys.length->(n+ys.length)*bytes<=140737488355328->old.length=n->(∀e∈old,e.length=s)->
  olds.length=n*s->(∀w',(∀b o,w'.cell? ⟨b,o,none⟩=C.w.cell? ⟨b,o,none⟩)->(Builtin.firstCells s n (.slice base n cap)).run P w'=.ok olds.toArray w')->(∀i j (hi:i<old.length) (hj:j<old[i].length),∃x,olds[i*s+j]?=some x/\Rp C old[i][j] x)->
  ∃cells:Array Value,(Builtin.append_ #[t,tx] ty #[v,u]).run P C.w=.ok (.slice (some ⟨C.w.heap.size,0,none⟩) (n+ys.length) (grownCap C.w (n+ys.length) cap e)) (C.w.drew.alloc (.cells cells e))/\n+ys.length<=grownCap C.w (n+ys.length) cap e/\
   grownCap C.w (n+ys.length) cap e*s<=cells.size/\∀i j (hi:i<(old++ys).length) (hj:j<(old++ys)[i].length),∃x,cells[i*s+j]?=some x/\Rp C (old++ys)[i][j] x:=by
  intro base n cap olds old hv hg hbd hol hos hoc hold hat;have hge:=grownCap_ge C.w (n+ys.length) cap e;have hrun:=run_append_grow_src (P:=P) C.w t tx ty e i zv ht hi hzv base n cap olds (by rw[hsi];exact hold _ (λb o=>rfl)) u ys.length news (by rw[hsi];exact hsrc.src) hg (by
   have:(n+ys.length)*1<=(n+ys.length)*bytes:=Nat.mul_le_mul_left _ hb0;omega) (growslice_fits hg (by rw[hb];exact hbd))
  refine⟨_,by rw[hv];exact hrun,hge, ?_,λk j hk hj=>?_⟩
  ·simp only[Array.size_append,List.size_toArray,List.length_append,size_zeroCells,hzs,hoc,hnl];have h1:(n+ys.length)*s+(grownCap C.w (n+ys.length) cap e-(n+ys.length))*s=grownCap C.w (n+ys.length) cap e*s:=by
    rw[<-yaxq];congr 1;omega
   rw[yaxq]at h1;omega
  ·have hlt:k*s+j<(olds++news).length:=by
    simp only[List.length_append,hoc,hnl,<-Nat.add_mul];have hk2:k<n+ys.length:=by simp only[List.length_append,hol]at hk;exact hk
    refine jbk hk2 ?_;have hmem:=yaa hk;have:((old++ys)[k]).length=s:=by
     rcases List.mem_append.1 hmem with h|h
     ·exact hos _ h
     ·exact hys _ h
    omega
   rw[Array.getElem?_append_left (by simpa using hlt)];simp only[List.getElem?_toArray];by_cases e1:k<old.length
   ·have eq:(old++ys)[k]=old[k]:=yarq e1;obtain⟨y,h1,h2⟩:=hat k j e1 (by rw[<-eq];exact hj);refine⟨y, ?_,by simpa [eq]using h2⟩;have:k*s+j<olds.length:=by
     have:=(List.getElem?_eq_some_iff.1 h1).1;exact this
    rw[yba this];exact h1
   ·simp only[List.length_append]at hk;have eq:(old++ys)[k]'gq=ys[k-old.length]'O:=List.getElem_append_right O;obtain⟨y,h1,h2⟩:=hsrc.at_ (k-old.length) j O (by rw[<-eq];exact hj);refine⟨y, ?_,by simpa [eq]using h2⟩;have hk2:k*s=old.length*s+(k-old.length)*s:=by rw[<-yaxq];congr 1;omega
    rw[ybq (by rw[hoc,<-hol];omega),hoc,<-hol];rw[show k*s+j-old.length*s=(k-old.length)*s+j by omega];exact h1
 have nothing:∀{base:Option Addr} {n cap:Nat},v=.slice base n cap->n<=cap->ys=[]->(Builtin.append_ #[t,tx] ty #[v,u]).run P C.w=.ok v C.w:=by
  intro base n cap hv hle he;subst he;have hnews:news=[]:=List.eq_nil_of_length_eq_zero (by simpa using hnl);subst hnews;rw[hv];exact run_append_nothing (P:=P) C.w t tx ty e i ht hi base n cap hle u (by rw[hsi];exact hsrc.src)
 -- onto nothing
 have fromNothing:∀{base:Option Addr},v=.slice base 0 0->ys.length*bytes<=140737488355328->(r,G')=(Ce.sl G.next 0 0 ys.length ys.length,G.new (0,ys))->
  ∃D v',Rl D G'/\C.Le D/\Rp D r v'/\(Builtin.append_ #[t,tx] ty #[v,u]).run P C.w=.ok v' D.w:=by
  intro base hv hbd he;injection he with h1 h2;subst h1 h2;rcases ybd ys.length with h0|h0
  ·have hy0:=yan h0;obtain⟨D,hw,hR',hle,hFn,hμ⟩:=hR.fresh ys s C.w.heap.size C.w rfl rfl rfl (yaf _) (λb hb=>rfl) (λk hk=>hys _ (yaa _)) (λhne=>absurd hy0 hne);refine⟨D,v,hR',hle, ?_,by rw[hw];exact nothing hv (yaf _) hy0⟩;rw[hv,h0];exact .sl0 _ _ _ _ hFn
  ·obtain⟨cells,hrun,hge,hsz,hat⟩:=grow (olds:=[]) (old:=[]) hv O (by simpa using hbd) rfl gx gx (by
    intro w' _
    cases base<;>simp[Builtin.firstCells,loadCells,loadCellsFrom]) (λi j hi=>absurd hi gx)
   obtain⟨D,hw,hR',hle,hFn,hμ⟩:=hR.fresh ys s C.w.heap.size (C.w.drew.alloc (.cells cells e)) rfl rfl rfl (by show C.w.heap.size<=(C.w.heap.push _).size;simp) (λb hb=>wax _ _ _ hb) (λk hk=>hys _ (List.getElem_mem _))
    (λ_=>⟨yaf _,cells,e,jbf _ _,by
      have:ys.length*s<=grownCap C.w (0+ys.length) 0 e*s:=Nat.mul_le_mul_right _ (by simpa using hge);omega,λk j hk hj=>by simpa using hat k j (by simpa using hk) (by simpa using hj)⟩)
   refine⟨D,_,hR',hle,wga (s:=s) ys.length hFn ?_ (Nat.le_refl _) (by simpa using hge) O (λ_=>⟨cells,e,by rw[hw];exact jbf _ _,hsz⟩),by rw[hw];simpa using hrun⟩;rw[hμ]
   congr 1
   cases ys with
   |nil=>simp at h0
   |cons y ys=>simp
 split at h
 ·split at h
  ·injection h with h
   cases hc;exact fromNothing rfl (by assumption) h.symm
  ·cases h
 ·split at h
  ·injection h with h
   cases hc with
   |emp ad=>exact fromNothing rfl (by assumption) h.symm
  ·cases h
 ·-- an owned one
  rename_i id w n k c;split at h
  case h_2=>cases h
  rename_i w' es hg;split at h
  case isFalse=>cases h
  rename_i hcnd;obtain⟨rfl,hic,hnc,hes⟩:=hcnd;obtain⟨lF,lV,lE⟩:=hR.live id w' es hg;split at h
  ·-- there is room in what is known
   rename_i hroom;injection h with h;injection h with h1 h2;subst h1 h2
   cases hc with
   |sl0 _ _ _ ad hF'=>
    have hy0:ys=[]:=yan O;subst hy0;have hput:G.put id (w',jh es (n+0) [])=G:=by
     rw[zdw];unfold jb.put
     cases G with
     |mk nx gt=>
      congr 1
      funext j;by_cases e:j=id
      ·subst e;simpa using hg.symm
      ·simp[e]
    rw[hput];exact⟨C,_,hR,.refl C,.sl0 _ _ _ _ hF',nothing rfl (yaf _) rfl⟩
   |sl _ _ _ _ _ cap hF' hn' hcc hv' hk=>
    have hne:es≠[]:=λe=>by have:=lE.2 e;rw[hv']at this;cases this
    obtain⟨cur,t',hbk,hzk,hlk,hck⟩:=hR.blk id w' es hg hne;have hS:(C.μ id w').s=s:=by
     have h0:0<es.length:=List.length_pos_iff.2 hne;rw[<-hlk 0 h0];exact hes _ (yaa _)
    have hend:(n+k+ys.length)*s<=es.length*s:=yapq _ O;have e1:(n+k+ys.length)*s=(n+k)*s+ys.length*s:=by rw[yaxq]
    have e2:(C.μ id w').base+n*(C.μ id w').s+k*i.size=(C.μ id w').base+(n+k)*s:=by rw[hS,hsi,yaxq];omega
    have hfit:(C.μ id w').base+(n+k)*s+news.length<=cur.size:=by rw[hS]at hzk;omega
    have hrun:=wc6 (P:=P) (w:=C.w) (tx:=tx) (ty:=ty) (u:=u) ht hi (b:=(C.μ id w').b) (off:=(C.μ id w').base+n*(C.μ id w').s) (sLen:=k) (sCap:=cap) (by rw[hsi];exact hsrc.src) O hbk (by rw[e2];exact hfit);rw[e2]at hrun
    obtain⟨D,hw,hR',hle,hFn,hμ⟩:=hR.wrote hg hne (jh es (n+k) ys) (wo _ _ _ O) hbk (upd cur ((C.μ id w').base+(n+k)*s) news) (zbt _ _ _ hfit)
     (λm hm=>by
       rw[wo _ _ _ O]at hm;have g:=zap es (n+k) ys O m;rw[yag (by rw[wo _ _ _ O];exact hm)]at g;rw[hS];split at g
       ·rename_i hin;rw[yag (by omega:m-(n+k)<ys.length)]at g;injection g with g;rw[g];exact hys _ (yaa _)
       ·rw[yag hm]at g;injection g with g;rw[g];exact hes _ (yaa _))
     (λm p hm hp=>by
       have hm':=hm;rw[wo _ _ _ O]at hm';have g:=zap es (n+k) ys O m;rw[yag hm]at g;rw[wet _ _ _ hfit,hS];split at g
       ·rename_i hin;rw[yag (by omega:m-(n+k)<ys.length)]at g;injection g with g;have hp2:p<(ys[m-(n+k)]'O).length:=by rw[<-g];exact hp
        obtain⟨y,h1,h2⟩:=hsrc.at_ (m-(n+k)) p O hp2;have hplt:p<s:=by rw[<-hys _ (yaa (by omega:m-(n+k)<ys.length))];exact hp2
        have e3:m*s=(n+k)*s+(m-(n+k))*s:=by rw[<-yaxq];congr 1;omega
        have e4:(m-(n+k))*s+p<ys.length*s:=jbk O hplt;rw[if_pos (by rw[hnl];omega),show(C.μ id w').base+(m*s+p)-((C.μ id w').base+(n+k)*s)=(m-(n+k))*s+p by omega];exact⟨y,h1,by simpa [g]using h2⟩
       ·rename_i hout;rw[yag hm']at g;injection g with g;have hp2:p<es[m].length:=by rw[<-g];exact hp
        have hplt:p<s:=by rw[<-hes _ (yaa hm')];exact hp2
        obtain⟨y,h1,h2⟩:=hck m p hm' hp2;rw[hS]at h1;rw[if_neg (by
         rw[hnl];intro hh;rcases Nat.lt_or_ge m (n+k)with q|q
         ·have:(m+1)*s<=(n+k)*s:=yapq _ q;rw[yaxq]at this;omega
         ·have:(n+k+ys.length)*s<=m*s:=yapq _ O;omega)]
        exact⟨y,h1,by simpa [g]using h2⟩)
    refine⟨D,_,hR',hle, ?_,by rw[hw];exact hrun⟩;obtain⟨cs'',t'',hb'',hz''⟩:=hk;have hcur:cs''=cur/\t''=t':=by rw[hbk]at hb'';injection hb'' with q;injection q with q1 q2;exact⟨q1.symm,q2.symm⟩
    have:=Rp.sl (C:=D) id w' n (k+ys.length) c cap hFn hroom hcc (by rw[hμ];exact hv') (by
     rw[hμ,hw];exact⟨_,t',setRow_heap _ _ _ _ _ _ hbk,by rw[zbt _ _ _ hfit,<-hcur.1];exact hz''⟩)
    rw[hμ]at this;exact this
  ·-- it may grow
   rename_i hroom;split at h
   case isFalse=>cases h
   rename_i hbd;injection h with h;injection h with h1 h2;subst h1 h2
   -- what was there
   have hels:G.els (.sl id w' n k c)=some ((es.drop n).take k):=by
    simp only[jb.els,hg];rw[if_pos gq]
   have holdl:((es.drop n).take k).length=k:=by simp;omega
   have holds:∀e∈(es.drop n).take k,e.length=s:=λe he=>hes e (ybp (List.mem_of_mem_take he));obtain⟨ad,cap,hv,hcap,hcells⟩:=zdi hR hc hels;rw[holdl]at hv hcap;have hnew:(es.drop n).take k++ys≠[]:=by
    intro e;have:=congrArg List.length e;simp only[List.length_append,holdl,List.length_nil]at this;omega
   have hnews:∀e∈(es.drop n).take k++ys,e.length=s:=λe he=>by
    rcases List.mem_append.1 he with h|h
    ·exact holds e h
    ·exact hys e h
   have hlen1:((es.drop n).take k++ys).length=k+ys.length:=by simp only[List.length_append,holdl]
   obtain⟨olds,ho1,ho2,ho3⟩:∃olds:List Value,olds.length=k*s/\(∀w',(∀b o,w'.cell? ⟨b,o,none⟩=C.w.cell? ⟨b,o,none⟩)->(Builtin.firstCells s k (.slice ad k cap)).run P w'=.ok olds.toArray w')/\
    ∀i j (hi:i<((es.drop n).take k).length) (hj:j<((es.drop n).take k)[i].length),∃x,olds[i*s+j]?=some x/\Rp C ((es.drop n).take k)[i][j] x:=by
    rcases hcells with he|⟨b,o',sz,rfl,hsz,vs,hvs⟩
    ·have hk0:k=0:=by rw[<-holdl,he];rfl
     subst hk0;refine⟨[],gx,λw' _=>?_,λi j hi=>absurd hi gx⟩
     cases ad<;>simp[Builtin.firstCells,loadCells,loadCellsFrom]
    ·rcases ybd k with h0|h0
     ·subst h0;exact⟨[],gx,λw' _=>by simp[Builtin.firstCells,loadCells,loadCellsFrom],λi j hi=>absurd hi gx⟩
     ·have hss:sz=s:=by rw[<-hsz 0 O];exact holds _ (yaa _)
      subst hss;refine⟨flat k sz vs,za5 _ _ _,λw' hw'=>run_firstCells_some w' sz k _ k cap _ (za5 _ _ _) (λq v hq=>?_),λi j hi hj=>⟨vs i j,zig _ _ _ O (by rw[<-hsz i hi];exact hj),(hvs i j hi hj).2⟩⟩;obtain⟨h1,h2,h3,rfl⟩:=jer hq;rw[za8,hw',h3];have e1:(q/sz*sz+q%sz)/sz=q/sz:=by rw[<-h3]
      have e2:(q/sz*sz+q%sz)%sz=q%sz:=by rw[<-h3]
      rw[e1,e2];exact(hvs (q/sz) (q%sz) O (by rw[hsz _ O];exact h2)).1
   by_cases hfit:k+ys.length<=cap
   ·-- there is room after all
    cases hc with
    |sl0 _ _ _ ad' hF'=>
     injection hv with q1 q2 q3;omega
    |sl _ _ _ _ _ cap' hF' hn' hcc hv' hk=>
     injection hv with q1 q2 q3;subst q3;have hne:es≠[]:=λe=>by have:=lE.2 e;rw[hv']at this;cases this
     obtain⟨cur,t',hbk,hzk,hlk,hck⟩:=hR.blk id w' es hg hne;have hS:(C.μ id w').s=s:=by
      have h0:0<es.length:=List.length_pos_iff.2 hne;rw[<-hlk 0 h0];exact hes _ (yaa _)
     obtain⟨cs'',t'',hb'',hz''⟩:=hk;have hcur:cs''=cur:=by rw[hbk]at hb'';injection hb'' with q;injection q with q1 q2;exact q1.symm
     subst hcur;rw[hS]at hz'';have hend:(n+(k+ys.length))*s<=(n+cap')*s:=yapq _ O;have e1:(n+(k+ys.length))*s=n*s+k*s+ys.length*s:=by rw[yaxq,yaxq];omega
     have e2:(C.μ id w').base+n*(C.μ id w').s+k*i.size=(C.μ id w').base+(n*s+k*s):=by rw[hS,hsi];omega
     have hfit':(C.μ id w').base+(n*s+k*s)+news.length<=cs''.size:=O;have hrun:=wc6 (P:=P) (w:=C.w) (tx:=tx) (ty:=ty) (u:=u) ht hi (b:=(C.μ id w').b) (off:=(C.μ id w').base+n*(C.μ id w').s) (sLen:=k) (sCap:=cap') (by rw[hsi];exact hsrc.src) hfit hbk (by rw[e2];exact hfit');rw[e2]at hrun
     obtain⟨D,hw,hR',hle,hFn,hμ⟩:=hR.turned hg hne (w'+1) ((es.drop n).take k++ys) ⟨(C.μ id w').b,s,(C.μ id w').base+n*s,false⟩ (C.w.setRow (C.μ id w').b (upd cs'' ((C.μ id w').base+(n*s+k*s)) news)) (upd cs'' ((C.μ id w').base+(n*s+k*s)) news) t' (.inr rfl) rfl hnew rfl rfl rfl gx (.inl rfl) (λb hb hn=>setRow_other _ _ _ _ hn)
      (λcs t hc=>by rw[hbk]at hc;injection hc with hc;injection hc with q1 q2;subst q1 q2;exact⟨_,setRow_heap _ _ _ _ _ _ hbk,zbt _ _ _ hfit'⟩)
      (setRow_heap _ _ _ _ _ _ hbk) (by rw[zbt _ _ _ hfit',hlen1,Nat.add_mul];simp only;omega) (λm hm=>hnews _ (List.getElem_mem _))
      (λm p hm hp=>by
        rw[wet _ _ _ hfit'];simp only;by_cases em:m<k
        ·have eq:((es.drop n).take k++ys)[m]=((es.drop n).take k)[m]'O:=yarq O;have eq2:((es.drop n).take k)[m]'O=es[n+m]'O:=gx;have hp2:p<(es[n+m]'O).length:=by rw[<-eq2,<-eq];exact hp
         have hplt:p<s:=by rw[<-hes _ (yaa (by omega:n+m<es.length))];exact hp2
         obtain⟨y,h1,h2⟩:=hck (n+m) p O hp2;have:(m+1)*s<=k*s:=yapq _ em;rw[yaxq]at this;rw[if_neg O];refine⟨y, ?_,by simpa [eq,eq2]using h2⟩;rw[hS,yaxq]at h1;rw[show(C.μ id w').base+n*s+(m*s+p)=(C.μ id w').base+(n*s+m*s+p) by omega];exact h1
        ·have hm2:m<k+ys.length:=by rw[<-hlen1];exact hm
         have eq:((es.drop n).take k++ys)[m]=ys[m-k]'O:=by rw[List.getElem_append_right O];congr 1;omega
         have hp2:p<(ys[m-k]'O).length:=by rw[<-eq];exact hp
         have hplt:p<s:=by rw[<-hys _ (yaa (by omega:m-k<ys.length))];exact hp2
         obtain⟨y,h1,h2⟩:=hsrc.at_ (m-k) p O hp2;have e3:m*s=k*s+(m-k)*s:=by rw[<-yaxq];congr 1;omega
         have e4:(m-k)*s+p<ys.length*s:=jbk O hplt;rw[if_pos O,show(C.μ id w').base+n*s+(m*s+p)-((C.μ id w').base+(n*s+k*s))=(m-k)*s+p by omega];exact⟨y,h1,by simpa [eq]using h2⟩)
     refine⟨D,_,hR',hle, ?_,by rw[hw];exact hrun⟩;have:=Rp.sl (C:=D) id (w'+1) 0 (k+ys.length) (k+ys.length) cap' hFn (yaf _) hfit (by rw[hμ]) (by
      rw[hμ,hw];exact⟨_,t',setRow_heap _ _ _ _ _ _ hbk,by rw[zbt _ _ _ hfit'];simp only;rw[Nat.add_mul]at hz'';rw[Nat.zero_add];omega⟩)
     rw[hμ]at this;simpa [hS]using this
   ·-- a new row
    obtain⟨cells,hrun,hge,hsz,hat⟩:=grow (old:=(es.drop n).take k) hv O hbd holdl holds ho1 ho2 ho3;have hw0:C.w.heap.size<=(C.w.drew.alloc (.cells cells e)).heap.size:=by show C.w.heap.size<=(C.w.heap.push _).size;simp
    have hz0:((es.drop n).take k++ys).length*s<=cells.size:=by
     rw[hlen1];have:(k+ys.length)*s<=grownCap C.w (k+ys.length) cap e*s:=yapq _ hge;omega
    obtain⟨D,hw,hR',hle,hFn,hμ⟩:∃D,D.w=C.w.drew.alloc (.cells cells e)/\Rl D (G.put id (w'+1,(es.drop n).take k++ys))/\C.Le D/\D.F id (w'+1)/\D.μ id (w'+1)=⟨C.w.heap.size,s,0,false⟩:=by
     by_cases hne:es=[]
     ·subst hne;exact hR.filled hg _ s C.w.heap.size _ cells e hnew rfl rfl rfl hw0 (yaf _) (λb hb=>wax _ _ _ hb) (jbf _ _) hz0 (λm hm=>hnews _ (yaa _)) hat
     ·obtain⟨cur,t',hbk,hzk,hlk,hck⟩:=hR.blk id w' es hg hne;exact hR.turned hg hne (w'+1) _ ⟨C.w.heap.size,s,0,false⟩ _ cells e (.inr rfl) rfl hnew rfl rfl rfl hw0 (.inr (Nat.le_refl _)) (λb hb _=>wax _ _ _ hb) (λcs t hc=>⟨cs,by rw[show(C.w.drew.alloc (.cells cells e)).heap[(C.μ id w').b]?=C.w.heap[(C.μ id w').b]? from wax _ _ _ (lt_of_block hc)];exact hc,rfl⟩) (jbf _ _) (by simpa using hz0) (λm hm=>hnews _ (List.getElem_mem _)) (λm p hm hp=>by simpa using hat m p hm hp)
    refine⟨D,_,hR',hle, ?_,by rw[hw];exact hrun⟩;have:=Rp.sl (C:=D) id (w'+1) 0 (k+ys.length) (k+ys.length) (grownCap C.w (k+ys.length) cap e) hFn (yaf _) hge (by rw[hμ]) (by
     rw[hμ,hw];exact⟨cells,e,jbf _ _,by simpa using hsz⟩)
    rw[hμ]at this;simpa using this
 ·cases h

end
end Go.Proofs.YtedaadaaibofaaaGreat.Am
namespace Go.Proofs.YtedaadaaibofaaaGreat.Am
open Go.RowKit

section
variable {P:Program}{nt:Nat}{C:Cx}{G G':jb}{fr:Fr}{a:Act}{o:Oper}{x:AV}

theorem zih{id:Nat}{y:Nat×List (List Ce)}(hg:G.get id=some y):G.put id y=G:=by
 unfold jb.put
 cases G with
 |mk nx gt=>
  congr 1
  funext j;by_cases e:j=id
  ·subst e;simpa using hg.symm
  ·simp[e]

variable {c:Call}{t tx e:TypeId}{s:Nat}{i:TypeInfo}{y q:Operand}{z' q':Opd}{z:List Ce}
theorem jkq{bytes:Nat}(hop:o.op=.call c)(hcal:c.callee=.builtin .append)(ha:c.args.toList=[y,q])(hat:c.argTypes.toList=[t,tx])
 (ht:P.underlying t=some (.slice e)) (htx:(∃e',P.underlying tx=some (.slice e'))\/P.underlying tx=some .string) (hi:P.info? e=some i) (hs:ww P e=some s) (hz:wap P e=some z) (hzl:z.length=s) (hs0:0<s) (hb:i.bytes=bytes) (hb0:0<bytes)
 (hy:zh y=some z') (hq:zh q=some q') (h:aop (.app s bytes z' q') fr G=some (x,G')) (hR:Rl C G) (hF:FrR C nt fr a):OpOk P C a o x G':=by
 have hargs:=arr2 ha;have htys:=arr2 hat;obtain⟨u,hu⟩:∃u,a.eval y=u:=⟨_,rfl⟩;obtain⟨u2,hu2⟩:∃u,a.eval q=u:=⟨_,rfl⟩;have fin:∀{r:Ce} {D:Cx} {v':Value},Rl D G'->C.Le D->Rp D r v'->(Builtin.append_ #[t,tx] o.type #[u,u2]).run P C.w=.ok v' D.w->x=.c r->OpOk P C a o x G':=by
  intro r D v' h1 h2 h3 h4 h5;subst h5;refine⟨D,v',h1,h2,.c h3,.inl ?_⟩;simp[execOp,hop,resolve,hcal,hargs,htys,invoke,builtin,hu,hu2,h4]
 simp only[aop]at h;split at h
 ·rename_i c l hv hn;split at h
  ·rename_i e1;subst e1;obtain⟨⟨r,G2⟩,hr,h2⟩:=Option.map_eq_some_iff.1 h;injection h2 with h2 h3;simp only at h2 h3;subst h3;have hx:=z7 hF hy hv;have hx2:=z7 hF hq hn;rw[hu]at hx;rw[hu2]at hx2;obtain rfl:=jes hx2;obtain⟨news,hnews⟩:=wiq (P:=P) (C:=C) (l:=l) htx;obtain⟨D,v',h4,h5,h6,h7⟩:=zfz (ty:=o.type) ht hi hs hz hzl hs0 hb hb0 hr hR hx hnews;exact fin h4 h5 h6 h7 h2.symm
  ·cases h
 ·rename_i c d hns hv hn;obtain⟨⟨r,G2⟩,hr,h2⟩:=Option.map_eq_some_iff.1 h;injection h2 with h2 h3;simp only at h2 h3;subst h3;obtain⟨ys,hys,hr⟩:=Option.bind_eq_some_iff.1 hr;have hx:=z7 hF hy hv;have hx2:=z7 hF hq hn;rw[hu]at hx;rw[hu2]at hx2;have hl:∀e∈ys,e.length=s:=by
   unfold appA at hr;split at hr
   ·assumption
   ·cases hr
  obtain⟨news,hnews⟩:=wfy (P:=P) (e':=t) hR hx2 hys hl htx;obtain⟨D,v',h4,h5,h6,h7⟩:=zfz (ty:=o.type) ht hi hs hz hzl hs0 hb hb0 hr hR hx hnews;exact fin h4 h5 h6 h7 h2.symm
 ·cases h

theorem zj5(hop:o.op=.call c)(hcal:c.callee=.builtin .clear)(ha:c.args.toList=[y])(hat:c.argTypes.toList=[t])
 (ht:P.underlying t=some (.slice e)) (hz:wap P e=some z) (hy:zh y=some z') (h:aop (.clear z z') fr G=some (x,G')) (hR:Rl C G) (hF:FrR C nt fr a):OpOk P C a o x G':=by
 have hargs:=arr1 ha;have htys:=arr1 hat;obtain⟨u,hu⟩:∃u,a.eval y=u:=⟨_,rfl⟩;have run:∀w',(Builtin.clear_ #[t] o.type #[u]).run P C.w=.ok (.tuple #[]) w'->(execOp a.eval o).run P C.w=.ok (.value (.tuple #[])) w':=by
  intro w' hr;simp[execOp,hop,resolve,hcal,hargs,htys,invoke,builtin,hu,hr]
 have none:∀ad cap,u=.slice ad 0 cap->(execOp a.eval o).run P C.w=.ok (.value (.tuple #[])) C.w:=by
  intro ad cap hh;refine run _ ?_;rw[hh]
  cases ad<;>simp[Builtin.clear_,run_underlying ht]
 simp only[aop]at h;split at h
 ·rename_i id v i n c hv;split at h
  ·rename_i v' es hg;split at h
   ·rename_i hc;obtain⟨rfl,hle,hes⟩:=hc;injection h with h;injection h with h1 h2;subst h1 h2;have hx:=z7 hF hy hv;rw[hu]at hx;rcases ybd n with h0|h0
    ·subst h0;simp only[List.replicate_zero,zdw,zih hg];refine⟨C,.tuple #[],hR,.refl C,.un _,.inl ?_⟩
     cases hx
     ·exact none _ _ rfl
     ·exact none _ _ rfl
    ·cases hx with
     |sl0=>omega
     |sl _ _ _ _ _ cap hF' hn' hcc hv' hk=>
      have hne:es≠[]:=by intro e;subst e;simp at hle;omega
      obtain⟨cur,t',hbk,hzk,hlk,hck⟩:=hR.blk id v' es hg hne;have hS:(C.μ id v').s=z.length:=by
       have hp:0<es.length:=List.length_pos_iff.2 hne;rw[<-hlk 0 hp];exact hes _ (yaa _)
      obtain⟨zv,hzv,hzc⟩:=zb7 hz;obtain⟨hzl,hzr⟩:=jam (C:=C) hzc;have hzl':zv.cells.size=z.length:=by simpa using hzl
      have hsize:(Builtin.zeroCells zv.cells n).size=n*z.length:=by rw[size_zeroCells,hzl']
      have hend:(i+n)*z.length<=es.length*z.length:=yapq _ hle;rw[yaxq]at hend;have hfit:(C.μ id v').base+i*(C.μ id v').s+(Builtin.zeroCells zv.cells n).toList.length<=cur.size:=by
       rw[Array.length_toList,hsize,hS];rw[hS]at hzk;omega
      have hzat:∀k j,k<n->j<z.length->∃y,(Builtin.zeroCells zv.cells n)[k*z.length+j]?=some y/\∃(hj:j<z.length),Rp C z[j] y:=by
       intro k j hk hj;have hlt:k*z.length+j<n*z.length:=jbk hk hj;have hjz:j<zv.cells.size:=O;refine⟨zv.cells[j], ?_,hj,by have:=hzr j hj (by simpa using hjz);simpa using this⟩;simp only[Builtin.zeroCells,Array.getElem?_map];rw[Array.getElem?_range,if_pos (by rw[hzl'];exact hlt)];have h2:(k*z.length+j)%zv.cells.size=j:=by rw[hzl',Nat.mul_comm,Nat.mul_add_mod,Nat.mod_eq_of_lt hj]
       simp only[Option.map_some,h2,getElem!_pos zv.cells j hjz]
      have one:∀v∈(Builtin.zeroCells zv.cells n).toList,v.oneCell'=true:=by
       intro v hv;obtain⟨q,hq,rfl⟩:=ybr hv;simp only[Array.length_toList,hsize]at hq;have hzp:0<z.length:=by
        rcases ybd z.length with h|h
        ·rw[h]at hq;simp at hq
        ·exact h
       obtain⟨y,h1,hj,h2⟩:=hzat (q/z.length) (q%z.length) (Nat.div_lt_of_lt_mul (by rw[Nat.mul_comm];exact hq)) (Nat.mod_lt _ hzp);rw[Nat.div_add_mod']at h1;have:(Builtin.zeroCells zv.cells n).toList[q]'(by rw[Array.length_toList,hsize];exact hq)=y:=by
        have hq':q<(Builtin.zeroCells zv.cells n).size:=by rw[hsize];exact hq
        rw[Array.getElem?_eq_getElem hq']at h1;exact Option.some.inj h1
       rw[this];exact h2.one'
      have hspl:i+(List.replicate n z).length<=es.length:=by simpa using hle
      obtain⟨D,hw,hR',hle',hFn,hμ⟩:=hR.wrote hg hne (jh es i (List.replicate n z)) (wo _ _ _ hspl) hbk (upd cur ((C.μ id v').base+i*(C.μ id v').s) (Builtin.zeroCells zv.cells n).toList) (zbt _ _ _ hfit)
       (λm hm=>by
         rw[wo _ _ _ hspl]at hm;have g:=zap es i (List.replicate n z) hspl m;rw[yag (by rw[wo _ _ _ hspl];exact hm)]at g;rw[hS];simp only[List.length_replicate]at g;split at g
         ·rename_i hin;rw[List.getElem?_replicate,if_pos O]at g;injection g with g;rw[g]
         ·rw[yag hm]at g;injection g with g;rw[g];exact hes _ (yaa _))
       (λm p hm hp=>by
         have hm':=hm;rw[wo _ _ _ hspl]at hm';have g:=zap es i (List.replicate n z) hspl m;rw[yag hm]at g;rw[wet _ _ _ hfit,hS];simp only[List.length_replicate]at g;simp only[Array.length_toList,hsize];split at g
         ·rename_i hin;rw[List.getElem?_replicate,if_pos O]at g;injection g with g;have hp2:p<z.length:=by rw[g]at hp;exact hp
          obtain⟨y,h1,hj,h2⟩:=hzat (m-i) p O hp2;have e3:m*z.length=i*z.length+(m-i)*z.length:=by rw[<-yaxq];congr 1;omega
          have e4:(m-i)*z.length+p<n*z.length:=jbk O hp2;rw[if_pos O,show(C.μ id v').base+(m*z.length+p)-((C.μ id v').base+i*z.length)=(m-i)*z.length+p by omega];exact⟨y,by rw[Array.getElem?_toList];exact h1,by simpa [g]using h2⟩
         ·rename_i hout;rw[yag hm']at g;injection g with g;have hp2:p<es[m].length:=by rw[<-g];exact hp
          have hplt:p<z.length:=by rw[<-hes _ (yaa hm')];exact hp2
          obtain⟨y,h1,h2⟩:=hck m p hm' hp2;rw[hS]at h1;rw[if_neg (by
           intro hh;rcases Nat.lt_or_ge m i with q|q
           ·have:(m+1)*z.length<=i*z.length:=yapq _ q;rw[yaxq]at this;omega
           ·have:(i+n)*z.length<=m*z.length:=yapq _ O;rw[yaxq]at this;omega)]
          exact⟨y,h1,by simpa [g]using h2⟩)
      refine⟨D,.tuple #[],hR',hle',.un _,.inl ?_⟩;rw[hw];refine run _ ?_;have hst:=jcx (P:=P) (w:=C.w) hbk hfit one;obtain⟨n,rfl⟩:∃m,n=m+1:=⟨n-1,O⟩;simp[Builtin.clear_,run_underlying ht,hzv,hst]
   ·cases h
  ·cases h
 ·rename_i hv;injection h with h;injection h with h1 h2;subst h1 h2;have hx:=z7 hF hy hv;rw[hu]at hx;refine⟨C,.tuple #[],hR,.refl C,.un _,.inl ?_⟩
  cases hx;exact none _ _ rfl
 ·rename_i hv;injection h with h;injection h with h1 h2;subst h1 h2;have hx:=z7 hF hy hv;rw[hu]at hx;refine⟨C,.tuple #[],hR,.refl C,.un _,.inl ?_⟩
  cases hx;exact none _ _ rfl
 ·cases h

theorem Rl.laid(hR:Rl C G){id v s q:Nat}{es ys:List (List Ce)}{tx:TypeId}{u:Value}{news:List Value}(hg:G.get id=some (v,es))(hne:es≠[])(hes:∀e∈es,e.length=s)(hys:∀e∈ys,e.length=s)(hq:q+ys.length<=es.length)(hsrc:App C P s tx u ys news):
 ∃cur t',C.w.heap[(C.μ id v).b]?=some (.cells cur t' (0,0))/\(C.μ id v).s=s/\(C.μ id v).base+q*s+news.length<=cur.size/\
  ∃D,D.w=C.w.setRow (C.μ id v).b (upd cur ((C.μ id v).base+q*s) news)/\Rl D (G.put id (v,jh es q ys))/\C.Le D:=by
 have hnl:news.length=ys.length*s:=hsrc.src.newsLen;obtain⟨cur,t',hbk,hzk,hlk,hck⟩:=hR.blk id v es hg hne;have hS:(C.μ id v).s=s:=by
  have h0:0<es.length:=List.length_pos_iff.2 hne;rw[<-hlk 0 h0];exact hes _ (yaa _)
 have hend:(q+ys.length)*s<=es.length*s:=yapq _ hq;have e1:(q+ys.length)*s=q*s+ys.length*s:=by rw[yaxq]
 have hfit:(C.μ id v).base+q*s+news.length<=cur.size:=by rw[hS]at hzk;omega
 refine⟨cur,t',hbk,hS,hfit, ?_⟩
 obtain⟨D,hw,hR',hle,hFn,hμ⟩:=hR.wrote hg hne (jh es q ys) (wo _ _ _ O) hbk (upd cur ((C.μ id v).base+q*s) news) (zbt _ _ _ hfit)
  (λm hm=>by
    rw[wo _ _ _ O]at hm;have g:=zap es q ys O m;rw[yag (by rw[wo _ _ _ O];exact hm)]at g;rw[hS];split at g
    ·rename_i hin;rw[yag (by omega:m-q<ys.length)]at g;injection g with g;rw[g];exact hys _ (yaa _)
    ·rw[yag hm]at g;injection g with g;rw[g];exact hes _ (yaa _))
  (λm p hm hp=>by
    have hm':=hm;rw[wo _ _ _ O]at hm';have g:=zap es q ys O m;rw[yag hm]at g;rw[wet _ _ _ hfit,hS];split at g
    ·rename_i hin;rw[yag (by omega:m-q<ys.length)]at g;injection g with g;have hp2:p<(ys[m-q]'O).length:=by rw[<-g];exact hp
     obtain⟨y,h1,h2⟩:=hsrc.at_ (m-q) p O hp2;have hplt:p<s:=by rw[<-hys _ (yaa (by omega:m-q<ys.length))];exact hp2
     have e3:m*s=q*s+(m-q)*s:=by rw[<-yaxq];congr 1;omega
     have e4:(m-q)*s+p<ys.length*s:=jbk O hplt;rw[if_pos (by rw[hnl];omega),show(C.μ id v).base+(m*s+p)-((C.μ id v).base+q*s)=(m-q)*s+p by omega];exact⟨y,h1,by simpa [g]using h2⟩
    ·rename_i hout;rw[yag hm']at g;injection g with g;have hp2:p<es[m].length:=by rw[<-g];exact hp
     have hplt:p<s:=by rw[<-hes _ (yaa hm')];exact hp2
     obtain⟨y,h1,h2⟩:=hck m p hm' hp2;rw[hS]at h1;rw[if_neg (by
      rw[hnl];intro hh;rcases Nat.lt_or_ge m q with q'|q'
      ·have:(m+1)*s<=q*s:=yapq _ q';rw[yaxq]at this;omega
      ·have:(q+ys.length)*s<=m*s:=yapq _ O;omega)]
     exact⟨y,h1,by simpa [g]using h2⟩)
 exact⟨D,hw,hR',hle⟩

theorem zkx(hop:o.op=.call c)(hcal:c.callee=.builtin .copy)(ha:c.args.toList=[y,q])(hat:c.argTypes.toList=[t,tx])
 (ht:P.underlying t=some (.slice e)) (htx:∃e',P.underlying tx=some (.slice e')) (hs:ww P e=some s)
 (hy:zh y=some z') (hq:zh q=some q') (h:aop (.copy s z' q') fr G=some (x,G')) (hR:Rl C G) (hF:FrR C nt fr a):OpOk P C a o x G':=by
 have hargs:=arr2 ha;have htys:=arr2 hat;obtain⟨u,hu⟩:∃u,a.eval y=u:=⟨_,rfl⟩;obtain⟨u2,hu2⟩:∃u,a.eval q=u:=⟨_,rfl⟩;have run:∀r w',(Builtin.copy_ #[t,tx] o.type #[u,u2]).run P C.w=.ok r w'->(execOp a.eval o).run P C.w=.ok (.value r) w':=by
  intro r w' hr;simp[execOp,hop,resolve,hcal,hargs,htys,invoke,builtin,hu,hu2,hr]
 have hsz:=w9 hs C.w;simp only[aop]at h;split at h
 ·rename_i id v i n c' y' hv hn;split at h
  ·rename_i v' es ys hg hys;split at h
   ·rename_i hc;obtain⟨rfl,hle,hes,hysl,hroom⟩:=hc;injection h with h;injection h with h1 h2;subst h1 h2;have hx:=z7 hF hy hv;have hx2:=z7 hF hq hn;rw[hu]at hx;rw[hu2]at hx2;obtain⟨news,hsrc⟩:=wfy (P:=P) (e':=t) hR hx2 hys hysl (.inl htx);have hnl:=hsrc.src.newsLen;have hlen:=hsrc.src.len;have hcl:=hsrc.src.cells;have hmin:Nat.min ys.length n=ys.length:=Nat.min_eq_left hroom;rcases ybd n with h0|h0
    ·subst h0;have hy0:ys=[]:=yan O;subst hy0;have hn0:news=[]:=List.eq_nil_of_length_eq_zero (by simpa using hnl);subst hn0;rw[zdw,zih hg];refine .pure hR (.c (.int _ _)) (run _ _ ?_);simp only[List.length_nil]at hlen hcl;have hh:∀ad cap,(Builtin.copy_ #[t,tx] o.type #[.slice ad 0 cap,u2]).run P C.w=.ok (.int .i64 0) C.w:=by
      intro ad cap
      cases ad<;>simp[Builtin.copy_,run_underlying ht,hlen,hsz,hcl,storeCells,goInt]
     cases hx
     ·exact hh _ _
     ·exact hh _ _
    ·cases hx with
     |sl0=>omega
     |sl _ _ _ _ _ cap hF' hn' hcc hv' hk=>
      have hne:es≠[]:=by intro e;subst e;simp at hle;omega
      obtain⟨cur,t',hbk,hS,hfit,D,hw,hR',hle'⟩:=hR.laid (q:=i) hg hne hes hysl O hsrc;refine⟨D,_,hR',hle',.c (.int .i64 ys.length),.inl ?_⟩;rw[hw];refine run _ _ ?_;have hst:=jcx (P:=P) (w:=C.w) hbk hfit hsrc.src.one;rw[hS];simp[Builtin.copy_,run_underlying ht,hlen,hsz,hmin,hcl,hst,goInt]
   ·cases h
  ·cases h
 ·cases h

theorem jld{z:Opd}(hop:o.op=.call c)(hcal:c.callee=.builtin .cap)(ha:c.args.toList=[y])(hat:c.argTypes.toList=[t]){e:TypeId}(ht:P.underlying t=some (.slice e))(hy:zh y=some z)
 (h:aop (.cap z) fr G=some (x,G')) (hR:Rl C G) (hF:FrR C nt fr a):OpOk P C a o x G':=by
 have hargs:=arr1 ha;have htys:=arr1 hat;obtain⟨u,hu⟩:∃u,a.eval y=u:=⟨_,rfl⟩;have run:∀r,(Builtin.cap_ #[t] o.type #[u]).run P C.w=.ok r C.w->(execOp a.eval o).run P C.w=.ok (.value r) C.w:=by
  intro r hr;simp[execOp,hop,resolve,hcal,hargs,htys,invoke,builtin,hu,hr]
 simp only[aop]at h;split at h
 ·rename_i hv;injection h with h;injection h with h4 h5;subst h4 h5;have hx:=z7 hF hy hv;rw[hu]at hx;refine .pure (v:=.int .i64 0) hR (.c (.int _ _)) (run _ ?_)
  cases hx;simp[Builtin.cap_,run_underlying ht,goInt]
 ·cases h

theorem zed{w:World}{ty:TypeId}{zv:Value}(ht:P.underlying t=some (.slice e))(htx:P.underlying tx=some (.int .i64))(hi:P.info? e=some i)(hz:i.zero=some zv)(hs0:0<i.size)(hb0:0<i.bytes){N:Nat}(h0:0<N)(hb:N*i.bytes<=140737488355328):
 (Builtin.append_ #[t,tx] ty #[.slice none 0 0,.int .i64 N]).run P w=.ok (.slice (some ⟨w.heap.size,0,none⟩) N (grownCap w N 0 e)) (w.drew.alloc (.cells (Builtin.zeroCells zv.cells N++Builtin.zeroCells zv.cells (grownCap w N 0 e-N)) e)):=by
 have hN:N<=140737488355328:=by
  have:N*1<=N*i.bytes:=Nat.mul_le_mul_left _ hb0;omega
 have hw:IntKind.i64.wrap (N:Int)=N:=by rw[IntKind.wrap_i64];omega
 have h1:¬((N:Int)<0):=O;have h2:¬(281474976710656<(N:Int)*(i.bytes:Int)):=by
  have:((N*i.bytes:Nat):Int)<=140737488355328:=O;rw[Int.natCast_mul]at this;omega
 have h3:¬(N<=0):=O;have h63:¬(9223372036854775807<(N:Int)):=O;have h48:¬(281474976710656<Builtin.nextslicecap N 0*i.bytes):=by
  have:=growslice_fits (need:=N) (old:=0) h0 hb;omega
 have h4:¬(N=0):=O;have hm:max (N:Int) 0=N:=Int.max_eq_left O;have h63':¬(9223372036854775807<max (N:Int) 0):=by rw[hm];exact h63
 have h5:¬(N*i.size=0):=by
  intro hh;rcases Nat.mul_eq_zero.1 hh with h|h<;>omega
 simp[Builtin.append_,run_underlying ht,run_underlying htx,sizeOf,typeInfo,zeroValue,hi,hz,hw,h1,h2,h3,h63,h63',h48,h5,h4,hm,asInt,asIntOf,Question.forced,newRow,grownCap,Builtin.firstCells]

theorem jkx{bytes:Nat}(hop:o.op=.call c)(hcal:c.callee=.builtin .append)(ha:c.args.toList=[y,q])(hat:c.argTypes.toList=[t,tx])
 (ht:P.underlying t=some (.slice e)) (htx:P.underlying tx=some (.int .i64)) (hi:P.info? e=some i) (hs:ww P e=some s) (hz:wap P e=some z) (hzl:z.length=s) (hs0:0<s) (hb:i.bytes=bytes) (hb0:0<bytes)
 (hy:zh y=some z') (hq:zh q=some q') (h:aop (.appz s bytes z z' q') fr G=some (x,G')) (hR:Rl C G) (hF:FrR C nt fr a):OpOk P C a o x G':=by
 have hargs:=arr2 ha;have htys:=arr2 hat;obtain⟨u,hu⟩:∃u,a.eval y=u:=⟨_,rfl⟩;obtain⟨u2,hu2⟩:∃u,a.eval q=u:=⟨_,rfl⟩;have run:∀r w',(Builtin.append_ #[t,tx] o.type #[u,u2]).run P C.w=.ok r w'->(execOp a.eval o).run P C.w=.ok (.value r) w':=by
  intro r w' hr;simp[execOp,hop,resolve,hcal,hargs,htys,invoke,builtin,hu,hu2,hr]
 have hsi:i.size=s:=by unfold ww at hs;rw[hi]at hs;simpa using hs
 have hz':=hz;unfold wap at hz';obtain⟨zv,hzv,hzc⟩:=Option.bind_eq_some_iff.1 hz';rw[hi]at hzv;simp only[Option.bind_some]at hzv;have hzs:zv.cells.size=s:=by
  obtain⟨hl,_⟩:=jam (C:=C) hzc;simp at hl;omega
 simp only[aop]at h;split at h
 ·rename_i n hv hn;split at h
  ·rename_i hc;obtain⟨h0,hbd⟩:=hc;injection h with h;injection h with h1 h2;subst h1 h2;have hx:=z7 hF hy hv;have hx2:=z7 hF hq hn;rw[hu]at hx;rw[hu2]at hx2;obtain rfl:=zba hx2
   cases hx;obtain⟨N,rfl⟩:∃N:Nat,n=N:=⟨n.toNat,O⟩;simp only[Int.toNat_natCast]at hbd⊢;have hN:0<N:=O;have hrun:=zed (P:=P) (w:=C.w) (ty:=o.type) ht htx hi hzv O O hN (by rw[hb];exact hbd);have hge:N<=grownCap C.w N 0 e:=grownCap_ge C.w N 0 e;have hrel:=wdv (C:=C) hzc N s hzl hs0 (N*zv.cells.size) (by rw[hzs]);have hsz:(Builtin.zeroCells zv.cells N++Builtin.zeroCells zv.cells (grownCap C.w N 0 e-N)).size=grownCap C.w N 0 e*s:=by
    rw[Array.size_append,size_zeroCells,size_zeroCells,hzs,<-yaxq]
    congr 1
    omega
   have hle:N*s<=grownCap C.w N 0 e*s:=yapq _ hge
   obtain⟨D,hw,hR',hle',hFn,hμ⟩:=hR.fresh (List.replicate N z) s C.w.heap.size (C.w.drew.alloc (.cells (Builtin.zeroCells zv.cells N++Builtin.zeroCells zv.cells (grownCap C.w N 0 e-N)) e)) rfl rfl rfl (by show C.w.heap.size<=(C.w.heap.push _).size;simp) (λb hb=>wax _ _ _ hb) (λk hk=>by rw[List.getElem_replicate];exact hzl)
    (λ_=>⟨yaf _,_,e,jbf _ _,by rw[ybi,hsz];exact hle,λk j hk hj=>by
      obtain⟨y,h1,h2⟩:=hrel.at_ k j hk hj;refine⟨y, ?_,h2⟩;have hlt:k*s+j<N*s:=by
       rw[ybi]at hk;rw[List.getElem_replicate]at hj;exact jbk hk O
      rw[Array.getElem?_append_left (by rw[size_zeroCells,hzs];exact hlt)];exact h1⟩)
   refine⟨D,_,hR',hle',.c (wga (s:=s) (c:=N) N hFn ?_ (yaf _) hge O (λ_=>⟨_,e,by rw[hw];exact jbf _ _,by rw[hsz];exact yaf _⟩)),.inl ?_⟩
   ·rw[hμ]
    congr 1
    cases N with
    |zero=>omega
    |succ N=>simp[List.replicate_succ]
   ·rw[hw];exact run _ _ hrun
  ·cases h
 ·cases h

end
end Go.Proofs.YtedaadaaibofaaaGreat.Am
namespace Go.Proofs.YtedaadaaibofaaaGreat.Am
open Go.RowKit

section
variable {P:Program}{nt:Nat}{C:Cx}{G G':jb}{fr:Fr}{a:Act}{o:Oper}{x:AV}

theorem zdj{fz:Bool}{ao:AOp}(hc:wm P fz o.op=some (.op ao))(h:aop ao fr G=some (x,G'))(hR:Rl C G)(hF:FrR C nt fr a):OpOk P C a o x G':=by
 cases hop:o.op with
 |move y=>
  rw[hop]at hc;simp only[wm,Option.map_eq_some_iff,AO.op.injEq]at hc;obtain⟨z,hz,rfl⟩:=hc;exact zlb (.inl hop) hz h hR hF
 |assign y=>
  rw[hop]at hc;simp only[wm,Option.map_eq_some_iff,AO.op.injEq]at hc;obtain⟨z,hz,rfl⟩:=hc;exact zlb (.inr hop) hz h hR hF
 |pick c p q=>
  rw[hop]at hc;simp only[wm,Option.bind_eq_bind,Option.bind_eq_some_iff,Option.pure_def,Option.some.injEq,AO.op.injEq]at hc;obtain⟨c',h1,p',h2,q',h3,rfl⟩:=hc;exact jku hop h1 h2 h3 h hR hF
 |alloc t=>
  rw[hop]at hc;simp only[wm,Option.bind_eq_bind,Option.bind_eq_some_iff,Option.pure_def,Option.some.injEq,AO.op.injEq]at hc;obtain⟨z,h1,rfl⟩:=hc;exact wj3 hop h1 h hR
 |box t y=>
  rw[hop]at hc;simp only[wm,Option.bind_eq_bind,Option.bind_eq_some_iff,Option.pure_def,Option.some.injEq,AO.op.injEq]at hc;obtain⟨z,h1,rfl⟩:=hc;exact zld hop h1 h hR hF
 |build t ps=>
  rw[hop]at hc;simp only[wm,Option.bind_eq_bind,Option.bind_eq_some_iff,Option.pure_def,Option.some.injEq,AO.op.injEq]at hc;obtain⟨z,h1,pl,h2,qs,h3,rfl⟩:=hc;exact zj4 hop h1 h2 h3 h hR hF
 |buildSlice t n ps=>
  rw[hop]at hc;simp only[wm,Option.bind_eq_bind,Option.bind_eq_some_iff,Option.pure_def]at hc;obtain⟨e,h1,s,h2,z,h3,qs,h4,h5⟩:=hc;split at h5
  ·rename_i hcc;injection h5 with h5;injection h5 with h5;subst h5;have ht:P.underlying t=some (.slice e):=by
    unfold wif at h1;split at h1
    ·rename_i q;injection h1 with h1;subst h1;exact q
    ·cases h1
   exact wkw hop ht h2 h3 h4 hcc.1 hcc.2.1 hcc.2.2 h hR hF
  ·cases h5
 |load t y=>
  rw[hop]at hc;simp only[wm,Option.bind_eq_bind,Option.bind_eq_some_iff,Option.pure_def,Option.some.injEq,AO.op.injEq]at hc;obtain⟨g,h1,s,h2,z,h3,rfl⟩:=hc;exact wku hop h1 h2 h3 h hR hF
 |store t y q=>
  rw[hop]at hc;simp only[wm,Option.bind_eq_bind,Option.bind_eq_some_iff,Option.pure_def,Option.some.injEq,AO.op.injEq]at hc;obtain⟨s,h1,z,h2,z2,h3,rfl⟩:=hc;exact jj4 hop h1 h2 h3 h hR hF
 |nilCheck y=>
  rw[hop]at hc;simp only[wm,Option.bind_eq_bind,Option.bind_eq_some_iff,Option.pure_def,Option.some.injEq,AO.op.injEq]at hc;obtain⟨z,h1,rfl⟩:=hc;exact zkv hop h1 h hR hF
 |binOp op t p q t'=>
  rw[hop]at hc;simp only[wm]at hc;split at hc
  ·rename_i hoq;have ag:∀g,(match P.underlying t with|some (.struct _)|some (.array _ _)=>some true|some _=>some false|none=>none)=some g->jbw P t=some g:=λg hg=>hg;split at hc
   all_goals first
    |(rename_i k hu
      simp only[Option.bind_eq_bind,Option.bind_eq_some_iff,Option.pure_def,Option.some.injEq,AO.op.injEq]at hc;obtain⟨p',h1,q',h2,rfl⟩:=hc
      first
      |exact zi5 hop h1 h2 h hR hF
      |exact ji5 hop hoq h1 h2 (.inr ⟨rfl,_,rfl,gb,gb,(λe=>(by cases e)),(λe=>(by cases e)),(λe=>(by cases e)),(λ_=>⟨_,hu⟩),(λe=>(by cases e)),(λe=>(by cases e))⟩) h hR hF
      |exact ji5 hop hoq h1 h2 (.inr ⟨rfl,_,rfl,gb,gb,(λe=>(by cases e)),(λe=>(by cases e)),(λe=>(by cases e)),(λe=>(by cases e)),(λ_=>⟨_,hu⟩),(λe=>(by cases e))⟩) h hR hF)
    |(rename_i hu
      simp only[Option.bind_eq_bind,Option.bind_eq_some_iff,Option.pure_def,Option.some.injEq,AO.op.injEq]at hc;obtain⟨p',h1,q',h2,rfl⟩:=hc
      first
      |exact zi5 hop h1 h2 h hR hF
      |exact ji5 hop hoq h1 h2 (.inr ⟨rfl,_,rfl,gb,gb,(λe=>(by cases e)),(λ_=>hu),(λe=>(by cases e)),(λe=>(by cases e)),(λe=>(by cases e)),(λe=>(by cases e))⟩) h hR hF)
    |(rename_i u1 u2 u3 hu
      simp only[Option.bind_eq_bind,Option.bind_eq_some_iff,Option.pure_def,Option.some.injEq,AO.op.injEq]at hc;obtain⟨p',h1,q',h2,rfl⟩:=hc;exact ji5 hop hoq h1 h2 (.inr ⟨rfl,_,rfl,gb,gb,(λe=>(by cases e)),(λe=>(by cases e)),(λe=>(by cases e)),(λe=>(by cases e)),(λe=>(by cases e)),(λ_=>⟨_,_,_,hu⟩)⟩) h hR hF)
    |(rename_i fs hu
      split at hc
      ·cases hc
      ·rename_i hgd;simp only[Option.bind_eq_bind,Option.bind_eq_some_iff,Option.pure_def,Option.some.injEq,AO.op.injEq]at hc;obtain⟨ks,h0,p',h1,q',h2,rfl⟩:=hc;exact ji5 hop hoq h1 h2 (.inl ⟨rfl,h0,by simpa using hgd,ag true (by rw[hu])⟩) h hR hF)
    |cases hc
  ·simp only[Option.bind_eq_bind,Option.bind_eq_some_iff,Option.pure_def,Option.some.injEq,AO.op.injEq]at hc;obtain⟨p',h1,q',h2,rfl⟩:=hc;exact zi5 hop h1 h2 h hR hF
 |unOp op t y=>
  rw[hop]at hc;simp only[wm,Option.bind_eq_bind,Option.bind_eq_some_iff,Option.pure_def,Option.some.injEq,AO.op.injEq]at hc;obtain⟨z,h1,rfl⟩:=hc;exact zlj hop h1 h hR hF
 |convert t t' y=>
  rw[hop]at hc;simp only[wm]at hc;split at hc
  ·rename_i k0 k h1 h2;simp only[Option.bind_eq_bind,Option.bind_eq_some_iff,Option.pure_def,Option.some.injEq,AO.op.injEq]at hc;obtain⟨z,h3,rfl⟩:=hc;exact jkv hop h1 h2 h3 h hR hF
  ·rename_i e h1 h2;split at hc
   ·rename_i h4;simp only[Option.bind_eq_bind,Option.bind_eq_some_iff,Option.pure_def,Option.some.injEq,AO.op.injEq]at hc;obtain⟨z,h3,rfl⟩:=hc;exact jlb hop h1 h2 h4 h3 h hR hF
   ·cases hc
  ·cases hc
 |makeFunc f pre cap=>
  rw[hop]at hc
  cases f<;>simp only[wm]at hc<;>try(cases hc;done)
  simp only[Option.bind_eq_bind,Option.bind_eq_some_iff,Option.pure_def,Option.some.injEq,AO.op.injEq]at hc;obtain⟨p,h1,q,h2,rfl⟩:=hc;exact wkv hop h1 h2 h hR hF
 |makeSlice t l c=>
  rw[hop]at hc;simp only[wm,Option.bind_eq_bind,Option.bind_eq_some_iff,Option.pure_def]at hc;obtain⟨e,h1,s,h2,z,h3,i,h4,h5⟩:=hc;split at h5
  ·rename_i hcc;simp only[Option.bind_eq_some_iff,Option.some.injEq,AO.op.injEq]at h5;obtain⟨l',h6,c',h7,rfl⟩:=h5;have ht:P.underlying t=some (.slice e):=by
    unfold wif at h1;split at h1
    ·rename_i q;injection h1 with h1;subst h1;exact q
    ·cases h1
   exact jiq hop ht h2 h3 h4 hcc.1 hcc.2.1 h6 h7 h hR hF hcc.2.2
  ·cases h5
 |slice t y lo hi mx=>
  rw[hop]at hc;simp only[wm]at hc;split at hc
  ·rename_i ht;split at hc
   ·rename_i hmx;simp only[Option.bind_eq_bind,Option.bind_eq_some_iff,Option.pure_def,Option.some.injEq,AO.op.injEq]at hc;obtain⟨z,h1,lo',h2,hi',h3,rfl⟩:=hc;exact wj2 hop ht h1 h2 h3 h hR hF
   ·cases hc
  ·rename_i e ht;simp only[Option.bind_eq_bind,Option.bind_eq_some_iff,Option.pure_def]at hc;obtain⟨s,h1,hc⟩:=hc;split at hc
   ·rename_i hcc;simp only[Option.bind_eq_some_iff,Option.some.injEq,AO.op.injEq]at hc;obtain⟨z,h2,lo',h3,hi',h4,mx',h5,rfl⟩:=hc;exact jj2 hop ht h1 hcc.2 h2 h3 h4 h5 hcc.1 h hR hF
   ·cases hc
  ·cases hc
 |fieldAddr t y i=>
  rw[hop]at hc;simp only[wm,Option.bind_eq_bind,Option.bind_eq_some_iff,Option.pure_def]at hc;obtain⟨⟨off,s,ft⟩,h1,hc⟩:=hc;simp only at hc;split at hc
  ·rename_i hcc;simp only[Option.bind_eq_some_iff,Option.some.injEq,AO.op.injEq]at hc;obtain⟨z,h2,rfl⟩:=hc;exact zj3 hop h1 hcc h2 h hR hF
  ·cases hc
 |field t y i=>
  rw[hop]at hc;simp only[wm,Option.bind_eq_bind,Option.bind_eq_some_iff,Option.pure_def]at hc;obtain⟨⟨off,s,ft⟩,h1,hc⟩:=hc;simp only[Option.bind_eq_some_iff,Option.some.injEq,AO.op.injEq]at hc;obtain⟨g,h2,z,h3,rfl⟩:=hc;exact wlb hop h1 h2 h3 h hR hF
 |indexAddr t y q=>
  rw[hop]at hc;simp only[wm]at hc;split at hc
  ·rename_i e ht;simp only[Option.bind_eq_bind,Option.bind_eq_some_iff,Option.pure_def]at hc;obtain⟨s,h1,hc⟩:=hc;split at hc
   ·rename_i hcc;simp only[Option.bind_eq_some_iff,Option.some.injEq,AO.op.injEq]at hc;obtain⟨z,h2,q',h3,rfl⟩:=hc;exact jj3 hop ht h1 hcc h2 h3 h hR hF
   ·cases hc
  ·rename_i n e ht;simp only[Option.bind_eq_bind,Option.bind_eq_some_iff,Option.pure_def,Option.some.injEq,AO.op.injEq]at hc;obtain⟨s,h1,z,h2,q',h3,rfl⟩:=hc;exact jkw hop ht h1 h2 h3 h hR hF
  ·cases hc
 |index t y q=>
  rw[hop]at hc;simp only[wm]at hc;split at hc
  ·rename_i ht;simp only[Option.bind_eq_bind,Option.bind_eq_some_iff,Option.pure_def,Option.some.injEq,AO.op.injEq]at hc;obtain⟨z,h2,q',h3,rfl⟩:=hc;exact jlc hop ht h2 h3 h hR hF
  ·rename_i n e ht;simp only[Option.bind_eq_bind,Option.bind_eq_some_iff,Option.pure_def,Option.some.injEq,AO.op.injEq]at hc;obtain⟨g,h0,s,h1,z,h2,q',h3,rfl⟩:=hc;exact zkw hop ht h0 h1 h2 h3 h hR hF
  ·cases hc
 |extract y i=>
  rw[hop]at hc;simp only[wm,Option.bind_eq_bind,Option.bind_eq_some_iff,Option.pure_def,Option.some.injEq,AO.op.injEq]at hc;obtain⟨z,h1,rfl⟩:=hc;exact zlc hop h1 h hR hF
 |call c=>
  rw[hop]at hc;simp only[wm]at hc;split at hc
  ·simp only[Option.bind_eq_bind,Option.bind_eq_some_iff,Option.pure_def,Option.some.injEq]at hc;obtain⟨f,h1,as,h2,h3⟩:=hc
   cases h3
  ·rename_i hcal;split at hc
   ·rename_i y t ha hat;split at hc
    ·rename_i ht;simp only[Option.bind_eq_bind,Option.bind_eq_some_iff,Option.pure_def,Option.some.injEq,AO.op.injEq]at hc;obtain⟨z,h1,rfl⟩:=hc;exact zkq hop hcal ha hat (.inl ⟨rfl,ht⟩) h1 h hR hF
    ·rename_i e ht;simp only[Option.bind_eq_bind,Option.bind_eq_some_iff,Option.pure_def,Option.some.injEq,AO.op.injEq]at hc;obtain⟨z,h1,rfl⟩:=hc;exact zkq hop hcal ha hat (.inr ⟨rfl,e,ht⟩) h1 h hR hF
    ·cases hc
   ·cases hc
  ·rename_i hcal;split at hc
   ·rename_i y q t u ha hat;split at hc
    ·rename_i e e' ht hu;simp only[Option.bind_eq_bind,Option.bind_eq_some_iff,Option.pure_def]at hc;obtain⟨s,h1,i,h2,z,h3,hc⟩:=hc;split at hc
     ·rename_i hcc;simp only[Option.bind_eq_some_iff,Option.some.injEq,AO.op.injEq]at hc;obtain⟨z',h4,q',h5,rfl⟩:=hc;exact jkq hop hcal ha hat ht (.inl ⟨e',hu⟩) h2 h1 h3 hcc.2.2 hcc.1 rfl hcc.2.1 h4 h5 h hR hF
     ·cases hc
    ·rename_i e ht hu;simp only[Option.bind_eq_bind,Option.bind_eq_some_iff,Option.pure_def]at hc;obtain⟨s,h1,i,h2,z,h3,hc⟩:=hc;split at hc
     ·rename_i hcc;simp only[Option.bind_eq_some_iff,Option.some.injEq,AO.op.injEq]at hc;obtain⟨z',h4,q',h5,rfl⟩:=hc;exact jkq hop hcal ha hat ht (.inr hu) h2 h1 h3 hcc.2.2 O rfl hcc.2.1 h4 h5 h hR hF
     ·cases hc
    ·rename_i e ht hu;simp only[Option.bind_eq_bind,Option.bind_eq_some_iff,Option.pure_def]at hc;obtain⟨s,h1,i,h2,z,h3,hc⟩:=hc;split at hc
     ·rename_i hcc;simp only[Option.bind_eq_some_iff,Option.some.injEq,AO.op.injEq]at hc;obtain⟨z',h4,q',h5,rfl⟩:=hc;exact jkx hop hcal ha hat ht hu h2 h1 h3 hcc.2.2 hcc.1 rfl hcc.2.1 h4 h5 h hR hF
     ·cases hc
    ·cases hc
   ·cases hc
  ·rename_i hcal;split at hc
   ·rename_i y t ha hat;split at hc
    ·rename_i e ht;simp only[Option.bind_eq_bind,Option.bind_eq_some_iff,Option.pure_def,Option.some.injEq,AO.op.injEq]at hc;obtain⟨z,h1,z',h2,rfl⟩:=hc;exact zj5 hop hcal ha hat ht h1 h2 h hR hF
    ·cases hc
   ·cases hc
  ·rename_i hcal;split at hc
   ·rename_i y q ha;simp only[Option.bind_eq_bind,Option.bind_eq_some_iff,Option.pure_def,Option.some.injEq,AO.op.injEq]at hc;obtain⟨z,h1,z',h2,rfl⟩:=hc;exact wlc (mx:=true) hop hcal ha h1 h2 h hR hF
   ·cases hc
  ·rename_i hcal;split at hc
   ·rename_i y q ha;simp only[Option.bind_eq_bind,Option.bind_eq_some_iff,Option.pure_def,Option.some.injEq,AO.op.injEq]at hc;obtain⟨z,h1,z',h2,rfl⟩:=hc;exact wlc (mx:=false) hop hcal ha h1 h2 h hR hF
   ·cases hc
  ·rename_i hcal;split at hc
   ·rename_i y q t u ha hat;split at hc
    ·rename_i e e' ht hu;simp only[Option.bind_eq_bind,Option.bind_eq_some_iff,Option.pure_def,Option.some.injEq,AO.op.injEq]at hc;obtain⟨s,h1,z',h4,q',h5,rfl⟩:=hc;exact zkx hop hcal ha hat ht ⟨e',hu⟩ h1 h4 h5 h hR hF
    ·cases hc
   ·cases hc
  ·rename_i hcal;split at hc
   ·rename_i y t ha hat;split at hc
    ·rename_i e ht;simp only[Option.bind_eq_bind,Option.bind_eq_some_iff,Option.pure_def,Option.some.injEq,AO.op.injEq]at hc;obtain⟨z,h1,rfl⟩:=hc;exact jld hop hcal ha hat ht h1 h hR hF
    ·cases hc
   ·cases hc
  ·cases hc
 |makeInterface t y=>
  rw[hop]at hc;simp only[wm,Option.some.injEq,AO.op.injEq]at hc;subst hc;simp[aop]at h
 |panic y=>
  rw[hop]at hc;simp only[wm,Option.some.injEq,AO.op.injEq]at hc;subst hc;simp[aop]at h
 |_=>rw[hop]at hc;simp[wm]at hc

end
end Go.Proofs.YtedaadaaibofaaaGreat.Am
namespace Go.Proofs.YtedaadaaibofaaaGreat.Am
open Go.RowKit

inductive AC where
 |skip
 |region (ops:List jd)
 |draw (segs:List (List jd))
 |seq (a b:AC)
 |cond (c:Opd) (a b:AC)
 |block (id:Nat) (c:AC)
 |loop (c:AC)
 |exit (id:Nat)
 |ret
 deriving Inhabited

def wld(nt:Nat):Option Nat->Bool
 |some d=>decide (d<nt)
 |none=>true
def jlj(fz:List Nat):Option Nat->Bool
 |some d=>fz.contains d
 |none=>false
def zp(P:Program)(fz:List Nat)(nt:Nat)(ops:Array Oper)(o:Oper):Option jd:=
 if wld nt o.dst then
  match wm P (jlj fz o.dst) o.op with
  |some op=>
   match o.guard with
   |none=>some ⟨o.dst,op,none⟩
   |some (j,b)=>match(ops[j]?).bind (·.dst)with
    |some t=>some ⟨o.dst,op,some (t,b)⟩
    |none=>none
  |none=>none
 else none
def waq(P:Program)(fz:List Nat)(nt:Nat)(ops:Array Oper):List Oper->Option (List jd)
 |[]=>some []
 |o::r=>match zp P fz nt ops o,waq P fz nt ops r with
  |some x,some l=>some (x::l)
  |_,_=>none
def Opd.tmps:Opd->List Nat
 |.t i=>[i]
 |_=>[]
def ol(x:Option Opd):List Nat:=match x with|some x=>x.tmps|none=>[]
def AOp.tmps:AOp->List Nat
 |.mv x|.box _ x|.load _ _ x|.nilc x|.un _ x|.conv _ x|.b2s x|.faddr _ x|.fld _ _ _ x|.ext x _|.len _ x|.clear _ x|.cap x=>x.tmps
 |.pick a b c=>a.tmps++b.tmps++c.tmps
 |.alloc _=>[]
 |.build _ ps=>ps.flatMap λp=>p.2.2.tmps
 |.mksl _ _ _ _ ps=>ps.flatMap λp=>p.2.tmps
 |.store _ x y|.bin _ x y|.eq _ _ _ x y|.iaddr _ x y|.iarr _ _ x y|.idx x y|.idxa _ _ _ x y|.app _ _ x y|.mm _ x y|.copy _ x y|.appz _ _ _ x y=>x.tmps++y.tmps
 |.stuck=>[]
 |.mkfn _ p c=>p.flatMap Opd.tmps++c.flatMap Opd.tmps
 |.mkslice _ _ _ x y=>x.tmps++y.tmps
 |.slice _ x a b c=>x.tmps++ol a++ol b++ol c
 |.strsl x a b=>x.tmps++ol a++ol b
def jd.looks(o:jd):List Nat:=
 (match o.op with|.op p=>p.tmps|.call f args=>f.tmps++args.flatMap Opd.tmps)++(match o.guard with|some (t,_)=>[t]|none=>[])
def wgz(o:Oper):List Nat:=(o.after.toList.filter (Region.binds .any)).map (·.on)
def zg0(l:List Nat):Nat:=l.foldr (λj m=>(1<<<j)|||m) 0
def zbx(ms:List Nat):Nat->Nat->Nat
 |0,m=>m
 |j+1,m=>zbx ms j (if m.testBit j then m|||ms.getD j 0 else m)
def wbz(ms:List Nat):List Nat:=(List.range ms.length).map λi=>zbx ms i (ms.getD i 0)
def zgb(cs:List Nat)(q:Nat):Bool:=(cs.drop q).all λm=>m&&&(2^q-1)==2^q-1
def jfz(cs:List Nat):Nat->List jd->List (List jd)
 |_,[]=>[]
 |q,o::r=>match zgb cs (q+1),jfz cs (q+1) r with
  |false,s::ss=>(o::s)::ss
  |_,ss=>[o]::ss
def jr{α:Type}:Nat->List α->List (Nat×α)
 |_,[]=>[]
 |k,x::r=>(k,x)::jr (k+1) r
def wkx(ms:List Nat)(p:Nat)(seg:List jd):Bool:=
 match seg with
 |[_]=>true
 |_=>
  let l:=jr p seg
  l.all λx=>(match x.2.dst with
   |some d=>l.all λy=>x.1==y.1||y.2.dst !=some d
   |none=>true)&&x.2.looks.all λt=>l.all λy=>y.2.dst !=some t||(ms.getD x.1 0).testBit y.1
def AO.isCall:AO->Bool
 |.call _ _=>true
 |_=>false
def AOp.writes:AOp->Bool
 |.box f _|.mksl f _ _ _ _=> !f
 |.alloc _|.store _ _ _|.mkslice _ _ _ _ _|.app _ _ _ _|.clear _ _|.copy _ _ _|.appz _ _ _ _ _=>true
 |_=>false
def AO.writes:AO->Bool
 |.call _ _=>false
 |.op o=>o.writes
def zeu(h:AO->Bool)(ms:List Nat)(p:Nat)(seg:List jd):Bool:=
 let l:=(jr p seg).filter λx=>h x.2.op
 l.all λx=>l.all λy=> !decide (x.1<y.1)||(zbx ms y.1 (ms.getD y.1 0)).testBit x.1
def AOp.touches:AOp->Bool
 |.load _ _ _|.iaddr _ _ _|.slice _ _ _ _ _|.store _ _ _=>true
 |_=>false
def AOp.stores:AOp->Bool
 |.store _ _ _=>true
 |_=>false
def AO.touches:AO->Bool
 |.call _ _=>false
 |.op o=>o.touches
def AO.stores:AO->Bool
 |.call _ _=>false
 |.op o=>o.stores
def AO.clash(a b:AO):Bool:=(a.stores&&b.touches)||(a.touches&&b.stores)
def stOk(ms:List Nat)(p:Nat)(seg:List jd):Bool:=
 let l:=jr p seg
 l.all λx=>l.all λy=> !decide (x.1<y.1)|| !(AO.clash x.2.op y.2.op)||(zbx ms y.1 (ms.getD y.1 0)).testBit x.1
def jeu(ms:List Nat)(p:Nat)(seg:List jd):Bool:=zeu AO.isCall ms p seg&&(zeu AO.writes ms p seg&&stOk ms p seg)
def wce(ms:List Nat):Nat->List (List jd)->Bool
 |_,[]=>true
 |p,s::r=>(wkx ms p s&&jeu ms p s)&&wce ms (p+s.length) r
def jgb(l:List jd)(afts:List (List Nat)):Option AC:=
 let ms:=afts.map zg0
 let segs:=jfz (wbz ms) 0 l
 if wce ms 0 segs&&(jr 0 afts).all (λx=>x.2.all (· <x.1))then some (.draw segs)else none
def wu(P:Program)(fz:List Nat)(nt:Nat):Code->Option AC
 |.skip=>some .skip
 |.region _ ops false=>(waq P fz nt ops ops.toList).map .region
 |.region _ ops true=>match waq P fz nt ops ops.toList with
  |some l=>jgb l (ops.toList.map wgz)
  |none=>none
 |.seq a b=>match wu P fz nt a,wu P fz nt b with
  |some x,some y=>some (.seq x y)
  |_,_=>none
 |.cond c a b=>match zh c,wu P fz nt a,wu P fz nt b with
  |some c,some x,some y=>some (.cond c x y)
  |_,_,_=>none
 |.block id c=>(wu P fz nt c).map (.block id)
 |.loop c=>(wu P fz nt c).map .loop
 |.exit id=>some (.exit id)
 |.ret=>some .ret
 |_=>none
inductive RV where
 |t (i:Nat)
 |m (i:Nat) (agg:Bool) (s:Nat)
def jj5(P:Program):ResultVar->Option RV
 |.tmp t=>some (.t t)
 |.cell a t=>match jbw P t,ww P t with
  |some g,some s=>some (.m a g s)
  |_,_=>none
def wfz(P:Program)(l:List ResultVar):Option (List RV):=l.mapM (jj5 P)

inductive AK where
 |code (c:AC)
 |ops (l:List jd)
 |segs (l:List (List jd))
 |blk (id:Nat)
 |lp (c:AC)

def wgb(id:Nat):List AK->Option (List AK)
 |.blk id'::k=>if id'=id then some k else wgb id k
 |_::k=>wgb id k
 |[]=>none
def putA(fr:Fr)(d:Option Nat)(v:AV):Fr:=match d with|some d=>(d,v)::fr|none=>fr
def wants(fr:Fr):Option (Nat×Bool)->Option Bool
 |none=>some true
 |some (t,b)=>match look fr t with|some (.c (.bool x))=>some (x==b)|some (.tup [])=>some false|_=>none
def RV.ev(fr:Fr)(G:jb):RV->Option AV
 |.t i=>look fr i
 |.m i g s=>match look fr i with
  |some (.c p)=>(G.at_ p).bind (wbw g s)
  |_=>none
def revs(fr:Fr)(G:jb):List RV->Option (List AV)
 |[]=>some []
 |x::r=>match x.ev fr G,revs fr G r with
  |some v,some vs=>some (v::vs)
  |_,_=>none
def retv(fr:Fr)(G:jb)(rets:List RV):Option AV:=
 match revs fr G rets with
 |some [v]=>some v
 |some vs=>some (.tup vs)
 |none=>none

def Ok(P:Program)(f:Nat)(args:List AV)(G:jb)(Q:AV->jb->Prop):Prop:=
 (∃fn,P.funcs[f]?=some fn/\fn.body.isSome=true/\(fn.name== "runtime.NumGoroutine")=false)/\
 ∀(C:Cx) (cargs:Array Value),Rl C G->(∃hl:cargs.size=args.length,∀i (hi:i<args.length),RpV C args[i] (cargs[i]'O))->
  Calls P f cargs C.w λe w'=>∃D G' r v,e=.returned v/\D.w=w'/\Q r G'/\Rl D G'/\RpV D r v/\C.Le D

structure Cx.LeF(n0:Nat)(C D:Cx):Prop where
 w:D.w=C.w
 F:∀id v,id<n0->C.F id v->D.F id v/\D.μ id v=C.μ id v
 M:∀b,b<C.w.heap.size->D.M b->C.M b
theorem Cx.LeF.of{C0 C D:Cx}{n0:Nat}(h:C0.Le C)(hF:∀id v,C0.F id v->id<n0)(k:Cx.LeF n0 C D):C0.Le D where
 F id v hf:=⟨(k.F id v (hF id v hf) (h.F id v hf).1).1,((k.F id v (hF id v hf) (h.F id v hf).1).2).trans (h.F id v hf).2⟩
 os:=by rw[k.w];exact h.os
 tape:=by rw[k.w];exact h.tape
 output:=by rw[k.w];exact h.output
 size:=by rw[k.w];exact h.size
 keep b hb hM:=by rw[k.w];exact h.keep b hb hM
 shp b cs t hc:=by rw[k.w];exact h.shp b cs t hc
 M b hb hm:=h.M b hb (k.M b (yay hb h.size) hm)
def zgc(n0 nt:Nat)(fr:Fr)(G:jb)(fr':Fr)(G':jb):Prop:=
 ∀C a,FrR C nt fr a->Rl C G->∃D,Cx.LeF n0 C D/\FrR D nt fr' a/\Rl D G'

inductive Old(n:Nat):Ce->Prop where
 |int (k:IntKind) (m:Int):Old n (.int k m)
 |bool (b:Bool):Old n (.bool b)
 |str (s:List UInt8):Old n (.str s)
 |nilp:Old n .nilp
 |nils:Old n .nils
 |nilf:Old n .nilf
 |emp:Old n .emp
 |any:Old n .any
 |fz (es:List (List Ce)) (h:∀i j (hi:i<es.length) (hj:j<es[i].length),Old n es[i][j]):Old n (.fz es)
 |fp (cs:List Ce) (h:∀j (hj:j<cs.length),Old n cs[j]):Old n (.fp cs)
 |sl (id v i m c:Nat) (h:id<n):Old n (.sl id v i m c)
 |ptr (id v i j:Nat) (h:id<n):Old n (.ptr id v i j)
 |fn (f:Nat) (pre cap:List Ce) (h1:∀i (hi:i<pre.length),Old n pre[i]) (h2:∀i (hi:i<cap.length),Old n cap[i]):Old n (.fn f pre cap)

theorem Rp.old{C:Cx}{n:Nat}(hF:∀id v,C.F id v->id<n){x:Ce}{v:Value}(h:Rp C x v):Old n x:=by
 induction h with
 |int k m=>exact .int k m
 |bool b=>exact .bool b
 |str s=>exact .str s
 |nilp=>exact .nilp
 |nils=>exact .nils
 |nilf=>exact .nilf
 |emp=>exact .emp
 |any=>exact .any
 |fz0=>exact .fz _ (λi j hi=>absurd hi gx)
 |fz es b o cap s vs hl hM hc hs cell h ih=>exact .fz es (λi j hi hj=>ih i j hi hj)
 |fp cs b o vs hl hM cell h ih=>exact .fp cs ih
 |sl0 id v i a hf=>exact .sl _ _ _ _ _ (hF _ _ hf)
 |sl id v i n c cap hf=>exact .sl _ _ _ _ _ (hF _ _ hf)
 |ptr id v i j hf=>exact .ptr _ _ _ _ (hF _ _ hf)
 |fn f pre cap ps cs hp hc h1 h2 ih1 ih2=>exact .fn _ _ _ ih1 ih2
def AV.all:AV->List Ce
 |.c x=>[x]
 |.agg xs=>xs
 |.tup vs=>allL vs
 |.un=>[]
where allL:List AV->List Ce
 |[]=>[]
 |v::r=>v.all++allL r
theorem jgc{y:Ce}:∀{vs:List AV},y∈AV.all.allL vs->∃i,∃h:i<vs.length,y∈vs[i].all
 |[],h=>by simp[AV.all.allL]at h
 |v::r,h=>by
  simp only[AV.all.allL,List.mem_append]at h;rcases h with h|h
  ·exact⟨0,gx,h⟩
  ·obtain⟨i,hi,h⟩:=jgc h;exact⟨i+1,by simpa using hi,by simpa using h⟩
theorem RpV.old{C:Cx}{n:Nat}(hF:∀id v,C.F id v->id<n){x:AV}{v:Value}(h:RpV C x v):∀y∈x.all,Old n y:=by
 induction h with
 |c h=>intro y hy;simp[AV.all]at hy;subst hy;exact h.old hF
 |agg hl h=>
  intro y hy;obtain⟨i,hi,rfl⟩:=List.mem_iff_getElem.1 hy;exact(h i hi).old hF
 |tup hl h ih=>
  intro y hy;obtain⟨i,hi,hy⟩:=jgc hy;exact ih i hi y hy
 |un v=>intro y hy;simp[AV.all]at hy

def OldS(G:jb):Prop:=∀id y,G.get id=some y->id<G.next/\∀i j (hi:i<y.2.length) (hj:j<y.2[i].length),Old G.next y.2[i][j]
theorem Rl.old{C:Cx}{G:jb}(h:Rl C G):OldS G:=by
 intro id ⟨v,es⟩ hg;refine⟨h.F id v (h.live id v es hg).1,λi j hi hj=>?_⟩;obtain⟨cs,t,_,_,_,hc⟩:=h.blk id v es hg (by rintro rfl;simp at hi);obtain⟨u,_,k⟩:=hc i j hi hj;exact k.old h.F

inductive Qs(P:Program)(G:jb):List jd->Fr->Fr->Prop where
 |nil {fr}:Qs P G [] fr fr
 |same {l fr fr' F}:(∀t,look fr' t=look fr t)->Qs P G l fr' F->Qs P G l fr F
 |op {d o g rest fr F v}:wants fr g=some true->aop o fr G=some (v,G)->Qs P G rest (putA fr d v) F->Qs P G (⟨d,.op o,g⟩::rest) fr F
 |no {d o g rest fr F}:wants fr g=some false->Qs P G rest (putA fr d (.tup [])) F->Qs P G (⟨d,o,g⟩::rest) fr F
 |call {d f args g rest fr F n pre cap vs r}:wants fr g=some true->f.ev fr=some (.c (.fn n pre cap))->evs fr args=some vs->
  Ok P n (pre.map .c++vs++cap.map .c) G (λr' G'=>r'=r/\G'=G)->Qs P G rest (putA fr d r) F->Qs P G (⟨d,.call f args,g⟩::rest) fr F

inductive Qc(P:Program)(Z:Fr->jb->Prop):List jd->Fr->jb->Prop where
 |nil {fr G}:Z fr G->Qc P Z [] fr G
 |op {d o g rest fr G v}:wants fr g=some true->(∀V,aop o fr V=some (v,V))->Qc P Z rest (putA fr d v) G->Qc P Z (⟨d,.op o,g⟩::rest) fr G
 |no {d o g rest fr G}:wants fr g=some false->Qc P Z rest (putA fr d (.tup [])) G->Qc P Z (⟨d,o,g⟩::rest) fr G
 |call {d f args g rest fr G n pre cap vs} (Q:AV->jb->Prop):wants fr g=some true->f.ev fr=some (.c (.fn n pre cap))->evs fr args=some vs->
  Ok P n (pre.map .c++vs++cap.map .c) G Q->(∀r G',Q r G'->Qc P Z rest (putA fr d r) G')->Qc P Z (⟨d,.call f args,g⟩::rest) fr G
inductive Qk(P:Program)(I:jb->Prop)(Z:Fr->jb->Prop):List jd->Fr->jb->Prop where
 |nil {fr G}:Z fr G->Qk P I Z [] fr G
 |op {d o g rest fr G v}:wants fr g=some true->(∀V,I V->aop o fr V=some (v,V))->Qk P I Z rest (putA fr d v) G->Qk P I Z (⟨d,.op o,g⟩::rest) fr G
 |no {d o g rest fr G}:wants fr g=some false->Qk P I Z rest (putA fr d (.tup [])) G->Qk P I Z (⟨d,o,g⟩::rest) fr G
 |call {d f args g rest fr G n pre cap vs r}:wants fr g=some true->f.ev fr=some (.c (.fn n pre cap))->evs fr args=some vs->
  (∀V,I V->Ok P n (pre.map .c++vs++cap.map .c) V (λr' V'=>r'=r/\V'=V))->Qk P I Z rest (putA fr d r) G->Qk P I Z (⟨d,.call f args,g⟩::rest) fr G
 |wop {d o g rest fr G v G'}:o.writes=true->wants fr g=some true->aop o fr G=some (v,G')->I G'->Qk P I Z rest (putA fr d v) G'->Qk P I Z (⟨d,.op o,g⟩::rest) fr G
inductive Qw(P:Program)(Z:Fr->jb->Prop):List jd->Fr->jb->Prop where
 |nil {fr G}:Z fr G->Qw P Z [] fr G
 |op {d o g rest fr G v}:wants fr g=some true->(∀V,aop o fr V=some (v,V))->Qw P Z rest (putA fr d v) G->Qw P Z (⟨d,.op o,g⟩::rest) fr G
 |no {d o g rest fr G}:wants fr g=some false->Qw P Z rest (putA fr d (.tup [])) G->Qw P Z (⟨d,o,g⟩::rest) fr G
 |rd {d o g rest fr G v}:o.touches=true->wants fr g=some true->aop o fr G=some (v,G)->Qw P Z rest (putA fr d v) G->Qw P Z (⟨d,.op o,g⟩::rest) fr G
 |wr {d o g rest fr G v G'}:o.stores=true->wants fr g=some true->aop o fr G=some (v,G')->Qw P Z rest (putA fr d v) G'->Qw P Z (⟨d,.op o,g⟩::rest) fr G
inductive Qx(P:Program){α β:Type}(S:α->β->jb)(I:β->Prop)(Z:Fr->α->β->Prop):List jd->Fr->α->β->Prop where
 |nil {fr a b}:Z fr a b->Qx P S I Z [] fr a b
 |op {d o g rest fr a b v}:wants fr g=some true->(∀a b,I b->aop o fr (S a b)=some (v,S a b))->Qx P S I Z rest (putA fr d v) a b->Qx P S I Z (⟨d,.op o,g⟩::rest) fr a b
 |no {d o g rest fr a b}:wants fr g=some false->Qx P S I Z rest (putA fr d (.tup [])) a b->Qx P S I Z (⟨d,o,g⟩::rest) fr a b
 |call {d f args g rest fr a b n pre cap vs} (Q:AV->α->Prop):wants fr g=some true->f.ev fr=some (.c (.fn n pre cap))->evs fr args=some vs->
  (∀b,I b->Ok P n (pre.map .c++vs++cap.map .c) (S a b) (λr V=>∃a',Q r a'/\V=S a' b))->(∀r a',Q r a'->Qx P S I Z rest (putA fr d r) a' b)->Qx P S I Z (⟨d,.call f args,g⟩::rest) fr a b
 |wop {d o g rest fr a b b' v}:o.writes=true->wants fr g=some true->(∀a,aop o fr (S a b)=some (v,S a b'))->I b'->Qx P S I Z rest (putA fr d v) a b'->Qx P S I Z (⟨d,.op o,g⟩::rest) fr a b
inductive weu:Ce->Prop where
 |nils:weu .nils
 |emp:weu .emp
 |fz (es:List (List Ce)):weu (.fz es)
 |sl (id v i n c:Nat):weu (.sl id v i n c)
inductive Go(P:Program)(n0 nt:Nat)(rets:List RV)(R:AV->jb->Prop):List AK->Fr->jb->Prop where
 |skip {K fr G}:Go P n0 nt rets R K fr G->Go P n0 nt rets R (.code .skip::K) fr G
 |seq {a b K fr G}:Go P n0 nt rets R (.code a::.code b::K) fr G->Go P n0 nt rets R (.code (.seq a b)::K) fr G
 |cond {c a b K fr G} (t:Bool):c.ev fr=some (.c (.bool t))->Go P n0 nt rets R (.code (if t then a else b)::K) fr G->Go P n0 nt rets R (.code (.cond c a b)::K) fr G
 |block {id c K fr G}:Go P n0 nt rets R (.code c::.blk id::K) fr G->Go P n0 nt rets R (.code (.block id c)::K) fr G
 |blk {id K fr G}:Go P n0 nt rets R K fr G->Go P n0 nt rets R (.blk id::K) fr G
 |loop {c K fr G}:Go P n0 nt rets R (.code c::.lp c::K) fr G->Go P n0 nt rets R (.code (.loop c)::K) fr G
 |lp {c K fr G}:Go P n0 nt rets R (.code c::.lp c::K) fr G->Go P n0 nt rets R (.lp c::K) fr G
 |exit {id K K' fr G}:wgb id K=some K'->Go P n0 nt rets R K' fr G->Go P n0 nt rets R (.code (.exit id)::K) fr G
 |ret {K fr G v}:retv fr G rets=some v->R v G->Go P n0 nt rets R (.code .ret::K) fr G
 |fin {fr G v}:retv fr G rets=some v->R v G->Go P n0 nt rets R [] fr G
 |region {l K fr G}:Go P n0 nt rets R (.ops l::K) fr G->Go P n0 nt rets R (.code (.region l)::K) fr G
 |draw {l K fr G}:Go P n0 nt rets R (.segs l::K) fr G->Go P n0 nt rets R (.code (.draw l)::K) fr G
 |segs {K fr G}:Go P n0 nt rets R K fr G->Go P n0 nt rets R (.segs []::K) fr G
 |sop {d o g rest K fr G v G'}:wants fr g=some true->aop o fr G=some (v,G')->Go P n0 nt rets R (.segs rest::K) (putA fr d v) G'->Go P n0 nt rets R (.segs ([⟨d,.op o,g⟩]::rest)::K) fr G
 |sno {d o g rest K fr G}:wants fr g=some false->Go P n0 nt rets R (.segs rest::K) (putA fr d (.tup [])) G->Go P n0 nt rets R (.segs ([⟨d,o,g⟩]::rest)::K) fr G
 |scall {d f args g rest K fr G n pre cap vs} (Q:AV->jb->Prop):wants fr g=some true->f.ev fr=some (.c (.fn n pre cap))->evs fr args=some vs->
  Ok P n (pre.map .c++vs++cap.map .c) G Q->(∀r G',Q r G'->Go P n0 nt rets R (.segs rest::K) (putA fr d r) G')->Go P n0 nt rets R (.segs ([⟨d,.call f args,g⟩]::rest)::K) fr G
 |quiet {s1 s2 seg rest K fr F G}:Qs P G (s1::s2::seg) fr F->Go P n0 nt rets R (.segs rest::K) F G->Go P n0 nt rets R (.segs ((s1::s2::seg)::rest)::K) fr G
 |qc {seg rest K fr G} (Z:Fr->jb->Prop):Qc P Z seg fr G->(∀F V,Z F V->Go P n0 nt rets R (.segs rest::K) F V)->Go P n0 nt rets R (.segs (seg::rest)::K) fr G
 |qk {seg rest K fr G} (I:jb->Prop) (Z:Fr->jb->Prop):I G->Qk P I Z seg fr G->(∀F V,Z F V->Go P n0 nt rets R (.segs rest::K) F V)->Go P n0 nt rets R (.segs (seg::rest)::K) fr G
 |qw {seg rest K fr G} (Z:Fr->jb->Prop):Qw P Z seg fr G->(∀F V,Z F V->Go P n0 nt rets R (.segs rest::K) F V)->Go P n0 nt rets R (.segs (seg::rest)::K) fr G
 |qx {α β:Type} {seg rest K fr} (S:α->β->jb) (I:β->Prop) (Z:Fr->α->β->Prop) (a:α) (b:β):(∀a b b',S a b=S a b'->b=b')->I b->Qx P S I Z seg fr a b->(∀F a b,Z F a b->Go P n0 nt rets R (.segs rest::K) F (S a b))->Go P n0 nt rets R (.segs (seg::rest)::K) fr (S a b)
 |nil {K fr G}:Go P n0 nt rets R K fr G->Go P n0 nt rets R (.ops []::K) fr G
 |op {d o g rest K fr G v G'}:wants fr g=some true->aop o fr G=some (v,G')->Go P n0 nt rets R (.ops rest::K) (putA fr d v) G'->Go P n0 nt rets R (.ops (⟨d,.op o,g⟩::rest)::K) fr G
 |nilq {d neg x g rest K fr G y}:wants fr g=some true->x.ev fr=some (.c y)->weu y->(∀b,Go P n0 nt rets R (.ops rest::K) (putA fr d (.c (.bool b))) G)->Go P n0 nt rets R (.ops (⟨d,.op (.eq neg false [.sl] x (.k .nils)),g⟩::rest)::K) fr G
 |no {d o g rest K fr G}:wants fr g=some false->Go P n0 nt rets R (.ops rest::K) (putA fr d (.tup [])) G->Go P n0 nt rets R (.ops (⟨d,o,g⟩::rest)::K) fr G
 |call {d f args g rest K fr G n pre cap vs} (Q:AV->jb->Prop):wants fr g=some true->f.ev fr=some (.c (.fn n pre cap))->evs fr args=some vs->
  Ok P n (pre.map .c++vs++cap.map .c) G Q->(∀r G',Q r G'->Go P n0 nt rets R (.ops rest::K) (putA fr d r) G')->Go P n0 nt rets R (.ops (⟨d,.call f args,g⟩::rest)::K) fr G
 |old {K fr G}:((∀t x,look fr t=some x->∀y∈x.all,Old G.next y)->OldS G->Go P n0 nt rets R K fr G)->Go P n0 nt rets R K fr G
 |shift {K fr G fr' G'}:zgc n0 nt fr G fr' G'->Go P n0 nt rets R K fr' G'->Go P n0 nt rets R K fr G

def Runs(P:Program)(f:FuncId)(R:Ending->World->Prop)(K:List Item)(a:Act)(w:World):Prop:=
 ∀(b:Frame) (cs:List Frame),b.fn=f->b.kind=.normal->∃e w' fr,R e w'/\Comes P (lone (b.at a K) cs w) (lone fr cs w') e/\fr.fn=f/\fr.leaving P w' e
theorem Runs.step{P:Program}{f:FuncId}{R:Ending->World->Prop}{K K':List Item}{a a':Act}{w w':World}(hs:∀(b:Frame) (cs:List Frame),step P (lone (b.at a K) cs w)=.next (lone (b.at a' K') cs w'))(h:Runs P f R K' a' w'):Runs P f R K a w:=by
 intro b cs hb hk;obtain⟨e,w1,fr,h1,h2,h3,h4⟩:=h b cs hb hk;exact⟨e,w1,fr,h1,.of_steps (.one (hs b cs)) h2,h3,h4⟩

inductive KR(P:Program)(fz:List Nat)(nt:Nat):List AK->List Item->Prop where
 |nil:KR P fz nt [] []
 |code {c c' K K'}:wu P fz nt c'=some c->KR P fz nt K K'->KR P fz nt (.code c::K) (.code c'::K')
 |blk {id K K'}:KR P fz nt K K'->KR P fz nt (.blk id::K) (.inBlock id::K')
 |lp {c c' K K'}:wu P fz nt c'=some c->KR P fz nt K K'->KR P fz nt (.lp c::K) (.inLoop c'::K')

variable {P:Program}{fz:List Nat}{nt:Nat}
theorem whr{id:Nat}{K K1:List AK}{L:List Item}(h:KR P fz nt K L)(he:wgb id K=some K1):∃L1,exitTo id L=some L1/\KR P fz nt K1 L1:=by
 induction h with
 |nil=>simp[wgb]at he
 |code _ _ ih=>simp only[wgb]at he;obtain⟨L1,h1,h2⟩:=ih he;exact⟨L1,by simpa [exitTo]using h1,h2⟩
 |@blk id' K K' hk ih=>
  simp only[wgb]at he;split at he
  ·rename_i e;injection he with he;subst he e;exact⟨K',by simp[exitTo],hk⟩
  ·rename_i e;obtain⟨L1,h1,h2⟩:=ih he;exact⟨L1,by simp[exitTo,e,h1],h2⟩
 |lp _ _ ih=>simp only[wgb]at he;obtain⟨L1,h1,h2⟩:=ih he;exact⟨L1,by simpa [exitTo]using h1,h2⟩

inductive TR(P:Program)(fz:List Nat)(nt:Nat)(ops:Array Oper):List jd->List Nat->Prop where
 |nil:TR P fz nt ops [] []
 |cons {o ao i l is}:ops[i]?=some o->zp P fz nt ops o=some ao->TR P fz nt ops l is->TR P fz nt ops (ao::l) (i::is)

theorem zle{P:Program}{fz:List Nat}{nt:Nat}{ops:Array Oper}:∀{l:List Oper} {as:List jd} (k:Nat),waq P fz nt ops l=some as->(∀i (hi:i<l.length),ops[k+i]?=some l[i])->TR P fz nt ops as ((List.range l.length).map (k+ ·))
 |[],as,k,h,_=>by simp[waq]at h;subst h;exact .nil
 |o::l,as,k,h,hi=>by
  simp only[waq]at h;split at h
  ·rename_i x l' h1 h2;injection h with h;subst h;have:=zle (k+1) h2 (λi hi'=>by have:=hi (i+1) (by simpa using hi');simpa [Nat.add_assoc,Nat.add_comm 1 i]using this);rw[List.length_cons,List.range_succ_eq_map,ybv,List.map_map];refine .cons (by have:=hi 0 gx;simpa only[Nat.add_zero,List.getElem_cons_zero]using this) h1 ?_;have e:(λx=>k+x)∘Nat.succ=λx=>k+1+x:=by funext x;simp;omega
   rw[e];exact this
  ·cases h

theorem FrR.putA{C:Cx}{fr:Fr}{a:Act}(h:FrR C nt fr a){d:Option Nat}(hd:∀t,d=some t->t<nt){x:AV}{v:Value}(hx:RpV C x v):FrR C nt (Am.putA fr d x) (a.put d v):=by
 cases d with
 |none=>exact h
 |some d=>exact h.put (hd d rfl) hx

theorem j7{ops:Array Oper}{o:Oper}{ao:jd}(hc:zp P fz nt ops o=some ao){C:Cx}{fr:Fr}{a:Act}(hF:FrR C nt fr a){t:Bool}(h:wants fr ao.guard=some t):Region.wanted o (yielded ops a.tmps)=t/\(∀d,o.dst=some d->d<nt)/\o.dst=ao.dst/\∃f,wm P f o.op=some ao.op:=by
 unfold zp at hc;split at hc
 ·rename_i hd;split at hc
  ·rename_i op hop;have hd':∀d,o.dst=some d->d<nt:=by
    intro d e;rw[e]at hd;simpa [wld]using hd
   split at hc
   ·rename_i hg;injection hc with hc;subst hc;simp only[wants]at h;injection h with h;subst h;exact⟨by simp[Region.wanted,hg],hd',rfl,_,hop⟩
   ·rename_i j b hg;split at hc
    ·rename_i t' ht;injection hc with hc;subst hc;simp only[wants]at h;split at h
     ·rename_i x hx;injection h with h;subst h;obtain⟨h1,h2⟩:=hF.slot _ _ hx;have h3:=jdi h2;have h4:a.tmps[t']?=some (.bool x):=by
       have hlt:t'<a.tmps.size:=by rw[hF.size];exact h1
       have:=zga h3;rw[Array.getD_eq_getD_getElem?,Array.getElem?_eq_getElem hlt]at this;simp only[Option.getD_some]at this;rw[Array.getElem?_eq_getElem hlt,this]
      refine⟨?_,hd',rfl,_,hop⟩;simp only[Region.wanted,hg,yielded,ht,Option.bind_some,h4]
      cases x<;>cases b<;>rfl
     ·rename_i hx;injection h with h;subst h;obtain⟨h1,h2⟩:=hF.slot _ _ hx;have hlt:t'<a.tmps.size:=by rw[hF.size];exact h1
      have h4:a.tmps[t']?=some (.tuple #[]):=by
       rw[Array.getElem?_eq_getElem hlt];rw[Array.getD_eq_getD_getElem?,Array.getElem?_eq_getElem hlt,Option.getD_some]at h2;generalize a.tmps[t']=u at h2
       cases h2 with
       |tup q1 q2=>
        rename_i vs;have:vs=#[]:=Array.eq_empty_of_size_eq_zero q1;rw[this]
      refine⟨?_,hd',rfl,_,hop⟩;simp only[Region.wanted,hg,yielded,ht,Option.bind_some,h4]
      rfl
     ·cases h
    ·cases hc
  ·cases hc
 ·cases hc

theorem zf0{fn:Func}{rets:List RV}(hr:wfz P fn.results.toList=some rets){C:Cx}{nt:Nat}{fr:Fr}{G:jb}{a:Act}(hR:Rl C G)(hF:FrR C nt fr a){v:AV}(h:retv fr G rets=some v):∃u,(results fn a.tmps).run P C.w=.ok u C.w/\RpV C v u:=by
 have one:∀(f:ResultVar->Sem Value),(∀t,f (.tmp t)=pure (a.tmps.getD t undef))->(∀b t,f (.cell b t)=do loadVar t (<-asAddr (a.tmps.getD b undef)))->∀(r:ResultVar) (x:RV) (v:AV),jj5 P r=some x->x.ev fr G=some v->∃u,(f r).run P C.w=.ok u C.w/\RpV C v u:=by
  intro f h1 h2 r x v hx hv
  cases r with
  |tmp t=>
   simp only[jj5]at hx;injection hx with hx;subst hx;exact⟨_,by rw[h1];rfl,(hF.slot _ _ hv).2⟩
  |cell b t=>
   simp only[jj5]at hx;split at hx
   ·rename_i g s hg hs;injection hx with hx;subst hx;simp only[RV.ev]at hv;split at hv
    ·rename_i p hp;obtain⟨cs,hcs,hv⟩:=Option.bind_eq_some_iff.1 hv;have hpv:=jdi (hF.slot _ _ hp).2;obtain⟨bb,oo,he,vs,hc⟩:=jig hR hpv hcs;obtain⟨u,hu,hxu⟩:=zes hg hs hc hv;exact⟨u,by rw[h2,he];simp[asAddr,hu],hxu⟩
    ·cases hv
   ·cases hx
 have many:∀(f:ResultVar->Sem Value),(∀t,f (.tmp t)=pure (a.tmps.getD t undef))->(∀b t,f (.cell b t)=do loadVar t (<-asAddr (a.tmps.getD b undef)))->∀(l:List ResultVar) (rets:List RV) (vs:List AV),wfz P l=some rets->revs fr G rets=some vs->
  ∃us:List Value,(l.mapM f).run P C.w=.ok us C.w/\us.length=vs.length/\∀i (hi:i<vs.length) (hu:i<us.length),RpV C vs[i] us[i]:=by
  intro f h1 h2 l
  induction l with
  |nil=>
   intro rets vs h h';simp[wfz]at h;subst h;simp[revs]at h';subst h';exact⟨[],gx,rfl,λi hi=>absurd hi gx⟩
  |cons r l ih=>
   intro rets vs h h';simp only[wfz,List.mapM_cons,Option.bind_eq_bind,Option.bind_eq_some_iff]at h;obtain⟨x,h3,xs,h4,h5⟩:=h;injection h5 with h5;subst h5;simp only[revs]at h';split at h'
   ·rename_i v vs' e1 e2;injection h' with h';subst h';obtain⟨u,g1,g2⟩:=one f h1 h2 r x v h3 e1;obtain⟨us,g3,g4,g5⟩:=ih xs vs' h4 e2;refine⟨u::us,by simp[List.mapM_cons,g1,g3],by simp[g4],λi hi hu=>?_⟩
    cases i with
    |zero=>exact g2
    |succ i=>exact g5 i (by simpa using hi) (by simpa using hu)
   ·cases h'
 unfold retv at h;obtain⟨vs,hvs⟩:∃vs,revs fr G rets=some vs:=by
  cases hx:revs fr G rets with
  |none=>simp[hx]at h
  |some vs=>exact⟨vs,rfl⟩
 rw[hvs]at h;obtain⟨us,hus,hlen,hat⟩:=many (λ(x:ResultVar)=>match x with|.tmp t=>(pure (a.tmps.getD t undef):Sem Value)|.cell b t=>do loadVar t (<-asAddr (a.tmps.getD b undef))) (λt=>rfl) (λb t=>rfl) _ _ _ hr hvs;have hres:(results fn a.tmps).run P C.w=.ok (if h:us.toArray.size=1 then us.toArray[0]else .tuple us.toArray) C.w:=by
  unfold results;rw[Array.mapM_eq_mapM_toList];simp only[Sem.run_bind,Sem.run_map,Sem.run_pure];exact(congrArg (λr=>(Result.andThen r λ(a:List Value) w'=>Result.ok a.toArray w').andThen λ(a:Array Value) w'=>Result.ok (if h:a.size=1 then a[0]else Value.tuple a) w') hus)
 refine⟨_,hres, ?_⟩;split at h
 ·rename_i x hx;injection hx with hx;subst hx;injection h with h;subst h;simp only[List.length_cons,List.length_nil]at hlen;have hu1:us.toArray.size=1:=by simp;omega
  rw[dif_pos hu1];have:=hat 0 gx O;simpa using this
 ·rename_i ws hne hx;injection hx with hx;subst hx;injection h with h;subst h;have hu1:¬us.toArray.size=1:=by
   intro e;have:vs.length=1:=by simp at e;omega
   obtain⟨v,rfl⟩:=List.length_eq_one_iff.1 this;exact hne v rfl
  rw[dif_neg hu1];refine .tup gq λi hi=>?_;have:=hat i hi O;simpa using this
 ·cases h

end Go.Proofs.YtedaadaaibofaaaGreat.Am
namespace Go.Proofs.YtedaadaaibofaaaGreat.Am
open Go.RowKit

variable {P:Program}{f:Opd}{as:List Opd}
theorem zi6{fz:Bool}{c:Call}(w4:wm P fz (.call c)=some (.call f as)):∃x,c.callee=.value x/\zh x=some f/\c.args.toList.mapM zh=some as:=by
 simp only[wm]at w4;split at w4
 ·rename_i x hx;simp only[Option.bind_eq_bind,Option.bind_eq_some_iff,Option.pure_def,Option.some.injEq,AO.call.injEq]at w4;obtain⟨f',q1,as',q2,rfl,rfl⟩:=w4;exact⟨x,hx,q1,q2⟩
 ·split at w4
  ·split at w4
   ·simp[Option.bind_eq_some_iff]at w4
   ·simp[Option.bind_eq_some_iff]at w4
   ·cases w4
  ·cases w4
 ·split at w4
  ·split at w4
   ·simp only[Option.bind_eq_bind,Option.bind_eq_some_iff,Option.pure_def]at w4;obtain⟨s,h1,i,h2,z,h3,hc⟩:=w4;split at hc
    ·simp[Option.bind_eq_some_iff]at hc
    ·cases hc
   ·simp only[Option.bind_eq_bind,Option.bind_eq_some_iff,Option.pure_def]at w4;obtain⟨s,h1,i,h2,z,h3,hc⟩:=w4;split at hc
    ·simp[Option.bind_eq_some_iff]at hc
    ·cases hc
   ·simp only[Option.bind_eq_bind,Option.bind_eq_some_iff,Option.pure_def]at w4;obtain⟨s,h1,i,h2,z,h3,hc⟩:=w4;split at hc
    ·simp[Option.bind_eq_some_iff]at hc
    ·cases hc
   ·cases w4
  ·cases w4
 ·split at w4
  ·split at w4
   ·simp[Option.bind_eq_some_iff]at w4
   ·cases w4
  ·cases w4
 ·split at w4
  ·simp[Option.bind_eq_some_iff]at w4
  ·cases w4
 ·split at w4
  ·simp[Option.bind_eq_some_iff]at w4
  ·cases w4
 ·split at w4
  ·split at w4
   ·simp[Option.bind_eq_some_iff]at w4
   ·cases w4
  ·cases w4
 ·split at w4
  ·split at w4
   ·simp[Option.bind_eq_some_iff]at w4
   ·cases w4
  ·cases w4
 ·cases w4
theorem wfm{fz:Bool}{o:Op}(w4:wm P fz o=some (.call f as)):∃c,o=.call c:=by
 cases o with
 |call c=>exact⟨c,rfl⟩
 |binOp op t x y t'=>
  simp only[wm]at w4;split at w4
  ·split at w4<;>first
    |(simp[Option.bind_eq_some_iff]at w4;done)
    |(split at w4
      ·cases w4
      ·simp[Option.bind_eq_some_iff]at w4)
  ·simp[Option.bind_eq_some_iff]at w4
 |buildSlice t n ps=>
  simp only[wm,Option.bind_eq_bind,Option.bind_eq_some_iff,Option.pure_def]at w4;obtain⟨e,h1,s,h2,z,h3,qs,h4,h5⟩:=w4;split at h5<;>simp at h5
 |convert t t' y=>
  simp only[wm]at w4;split at w4
  ·simp[Option.bind_eq_some_iff]at w4
  ·split at w4<;>simp[Option.bind_eq_some_iff]at w4
  ·cases w4
 |makeFunc f p c=>cases f<;>simp[wm,Option.bind_eq_some_iff]at w4
 |makeSlice t l c=>
  simp only[wm,Option.bind_eq_bind,Option.bind_eq_some_iff,Option.pure_def]at w4;obtain⟨e,h1,s,h2,z,h3,i,h4,h5⟩:=w4;split at h5<;>simp[Option.bind_eq_some_iff]at h5
 |slice t y lo hi mx=>
  simp only[wm]at w4;split at w4
  ·split at w4<;>simp[Option.bind_eq_some_iff]at w4
  ·simp only[Option.bind_eq_bind,Option.bind_eq_some_iff,Option.pure_def]at w4;obtain⟨s,h1,hc⟩:=w4;split at hc<;>simp[Option.bind_eq_some_iff]at hc
  ·cases w4
 |fieldAddr t y i=>
  simp only[wm,Option.bind_eq_bind,Option.bind_eq_some_iff,Option.pure_def]at w4;obtain⟨⟨off,s,ft⟩,h1,hc⟩:=w4;simp only at hc;split at hc<;>simp[Option.bind_eq_some_iff]at hc
 |field t y i=>
  simp only[wm,Option.bind_eq_bind,Option.bind_eq_some_iff,Option.pure_def]at w4;obtain⟨⟨off,s,ft⟩,h1,hc⟩:=w4;simp[Option.bind_eq_some_iff]at hc
 |indexAddr t y q=>
  simp only[wm]at w4;split at w4
  ·simp only[Option.bind_eq_bind,Option.bind_eq_some_iff,Option.pure_def]at w4;obtain⟨s,h1,hc⟩:=w4;split at hc<;>simp[Option.bind_eq_some_iff]at hc
  ·simp[Option.bind_eq_some_iff]at w4
  ·cases w4
 |index t y q=>
  simp only[wm]at w4;split at w4<;>simp[Option.bind_eq_some_iff]at w4
 |_=>simp[wm,Option.bind_eq_some_iff]at w4

theorem ji6{fz:Bool}{o:Op}{neg:Bool}{x y:Opd}(w4:wm P fz o=some (.op (.eq neg false [.sl] x y))):∃op t p q t' e,o=.binOp op t p q t'/\(op=.eql\/op=.neq)/\neg=(op==.neq)/\P.underlying t=some (.slice e)/\zh p=some x/\zh q=some y:=by
 cases o with
 |binOp op t p q t'=>
  simp only[wm]at w4;split at w4
  ·rename_i hoq;split at w4
   all_goals first
    |(rename_i k hu
      simp only[Option.bind_eq_bind,Option.bind_eq_some_iff,Option.pure_def,Option.some.injEq,AO.op.injEq]at w4;obtain⟨p',h1,q',h2,h3⟩:=w4
      first
      |(injection h3 with a1 a2 a3 a4 a5;subst a4 a5;exact⟨op,t,p,q,t',k,rfl,hoq,a1.symm,hu,h1,h2⟩)
      |(simp at h3;done))
    |(simp[Option.bind_eq_some_iff]at w4;done)
    |(split at w4
      ·cases w4
      ·simp[Option.bind_eq_some_iff]at w4)
  ·simp[Option.bind_eq_some_iff]at w4
 |buildSlice t n ps=>
  simp only[wm,Option.bind_eq_bind,Option.bind_eq_some_iff,Option.pure_def]at w4;obtain⟨e,h1,s,h2,z,h3,qs,h4,h5⟩:=w4;split at h5<;>simp at h5
 |convert t t' y=>
  simp only[wm]at w4;split at w4
  ·simp[Option.bind_eq_some_iff]at w4
  ·split at w4<;>simp[Option.bind_eq_some_iff]at w4
  ·cases w4
 |makeFunc f p c=>cases f<;>simp[wm,Option.bind_eq_some_iff]at w4
 |makeSlice t l c=>
  simp only[wm,Option.bind_eq_bind,Option.bind_eq_some_iff,Option.pure_def]at w4;obtain⟨e,h1,s,h2,z,h3,i,h4,h5⟩:=w4;split at h5<;>simp[Option.bind_eq_some_iff]at h5
 |slice t y lo hi mx=>
  simp only[wm]at w4;split at w4
  ·split at w4<;>simp[Option.bind_eq_some_iff]at w4
  ·simp only[Option.bind_eq_bind,Option.bind_eq_some_iff,Option.pure_def]at w4;obtain⟨s,h1,hc⟩:=w4;split at hc<;>simp[Option.bind_eq_some_iff]at hc
  ·cases w4
 |fieldAddr t y i=>
  simp only[wm,Option.bind_eq_bind,Option.bind_eq_some_iff,Option.pure_def]at w4;obtain⟨⟨off,s,ft⟩,h1,hc⟩:=w4;simp only at hc;split at hc<;>simp[Option.bind_eq_some_iff]at hc
 |field t y i=>
  simp only[wm,Option.bind_eq_bind,Option.bind_eq_some_iff,Option.pure_def]at w4;obtain⟨⟨off,s,ft⟩,h1,hc⟩:=w4;simp[Option.bind_eq_some_iff]at hc
 |indexAddr t y q=>
  simp only[wm]at w4;split at w4
  ·simp only[Option.bind_eq_bind,Option.bind_eq_some_iff,Option.pure_def]at w4;obtain⟨s,h1,hc⟩:=w4;split at hc<;>simp[Option.bind_eq_some_iff]at hc
  ·simp[Option.bind_eq_some_iff]at w4
  ·cases w4
 |index t y q=>
  simp only[wm]at w4;split at w4<;>simp[Option.bind_eq_some_iff]at w4
 |call c=>
  simp only[wm]at w4;repeat' (first|(split at w4)|(simp[Option.bind_eq_some_iff]at w4;done)|skip)
  all_goals(try(simp[Option.bind_eq_some_iff]at w4;done))
  all_goals(try(cases w4;done))
 |_=>simp[wm,Option.bind_eq_some_iff]at w4
theorem jg0{C:Cx}{y:Ce}{v:Value}(h:Rp C y v)(hs:weu y):∃a n c,v=.slice a n c:=by
 cases hs<;>cases h<;>exact⟨_,_,_,rfl⟩
theorem wgc{t e:TypeId}(d:Nat)(ht:P.underlying t=some (.slice e))(w:World)(a:Option Addr)(n c:Nat):(Op.equalIn (d+1) t (.slice a n c) (.slice none 0 0)).run P w=.ok a.isNone w:=by
 cases a<;>simp[Op.equalIn,run_underlying ht]
theorem wg0{t e:TypeId}(ht:P.underlying t=some (.slice e))(w:World)(a:Option Addr)(n c:Nat):(Op.equal t (.slice a n c) (.slice none 0 0)).run P w=.ok a.isNone w:=wgc 9999 ht w a n c

variable {fz:List Nat}{nt i:Nat}{ops:Array Oper}{Q:Exit->Act->World->Prop}{o:Oper}{d:Option Nat}{g:Option (Nat×Bool)}
theorem jat{ao:AOp}(h1:ops[i]?=some o)(h2:zp P fz nt ops o=some ⟨d,.op ao,g⟩)
 {C:Cx} {fr:Fr} {G G':jb} {a:Act} {v:AV} (hw:wants fr g=some true) (ha:aop ao fr G=some (v,G')) (hF:FrR C nt fr a) (hR:Rl C G) {Kont:Act->World->Prop}
 (hk:∀D a',Rl D G'->C.Le D->FrR D nt (putA fr d v) a'->Kont a' D.w):wpOp P ops Q i Kont a C.w:=by
 obtain⟨w1,w2,w3,fzb,w4⟩:=j7 h2 hF hw;simp only at w3 w4;obtain⟨D,u,hR',hle,hx,hrun⟩:=zdj w4 ha hR hF;have hF':FrR D nt (putA fr d v) (a.put o.dst u):=by
  rw[w3];exact(hF.mono hle).putA (λt e=>w2 t (w3.trans e)) hx
 have hnext:=hk D (a.put o.dst u) hR' hle hF';simp only[wpOp,h1,w1,if_true];left;unfold Oper.wp;rcases hrun with hrun|⟨rfl,hrun⟩
 ·rw[hrun];exact hnext
 ·rw[hrun];exact hnext
theorem zir{neg:Bool}{x:Opd}(h1:ops[i]?=some o)(h2:zp P fz nt ops o=some ⟨d,.op (.eq neg false [.sl] x (.k .nils)),g⟩)
 {C:Cx} {fr:Fr} {G:jb} {a:Act} {y:Ce} (hw:wants fr g=some true) (hx:x.ev fr=some (.c y)) (hy:weu y) (hF:FrR C nt fr a) (hR:Rl C G) {Kont:Act->World->Prop}
 (hk:∀b a',FrR C nt (putA fr d (.c (.bool b))) a'->Kont a' C.w):wpOp P ops Q i Kont a C.w:=by
 obtain⟨w1,w2,w3,fzb,w4⟩:=j7 h2 hF hw;simp only at w3 w4;obtain⟨op,t,p,q,t',e,hop,hoq,rfl,ht,hp,hq⟩:=ji6 w4;obtain⟨ad,n,c,hu⟩:=jg0 (z7 hF hp hx) hy;have hv:a.eval q=.slice none 0 0:=by
  have:=z7 hF hq (show(Opd.k .nils).ev fr=some (.c .nils)from rfl);generalize a.eval q=u at this⊢
  cases this
  rfl
 have hrun:(execOp a.eval o).run P C.w=.ok (.value (.bool (ad.isNone !=(op==.neq)))) C.w:=by
  have he:=wg0 (P:=P) ht C.w ad n c;simp only[execOp,hop,hu,hv];rcases hoq with rfl|rfl
  ·have hb:binOp .eql t (.slice ad n c) (.slice none 0 0)=(do pure (.bool (<-Op.equal t (.slice ad n c) (.slice none 0 0))):Sem Value):=rfl;simp[eqGuard,hb,Sem.run_bind,he,whq]
  ·have hb:binOp .neq t (.slice ad n c) (.slice none 0 0)=(do pure (.bool (!(<-Op.equal t (.slice ad n c) (.slice none 0 0)))):Sem Value):=rfl;simp[eqGuard,hb,Sem.run_bind,he,zhr]
 have hF':FrR C nt (putA fr d (.c (.bool (ad.isNone !=(op==.neq))))) (a.put o.dst (.bool (ad.isNone !=(op==.neq)))):=by
  rw[w3];exact hF.putA (λt e=>w2 t (w3.trans e)) (.c (.bool _))
 have hnext:=hk _ _ hF';simp only[wpOp,h1,w1,if_true];left;unfold Oper.wp;rw[hrun];exact hnext
theorem jbt{ao:AO}(h1:ops[i]?=some o)(h2:zp P fz nt ops o=some ⟨d,ao,g⟩)
 {C:Cx} {fr:Fr} {a:Act} (hw:wants fr g=some false) (hF:FrR C nt fr a) {Kont:Act->World->Prop}
 (hk:∀a',FrR C nt (putA fr d (.tup [])) a'->Kont a' C.w):wpOp P ops Q i Kont a C.w:=by
 obtain⟨w1,w2,w3,fzb,w4⟩:=j7 h2 hF hw;simp only at w3 w4;have hF':FrR C nt (putA fr d (.tup [])) (a.put o.dst undef):=by
  rw[w3];exact hF.putA (λt e=>w2 t (w3.trans e)) (.tup rfl λi hi=>by simp at hi)
 have hnext:=hk (a.put o.dst undef) hF';simp only[wpOp,h1,w1,Bool.false_eq_true,if_false];exact hnext
variable {fo:Opd}{args:List Opd}{fzb:Bool}
theorem zg1(w4:wm P fzb o.op=some (.call fo args))
 {C:Cx} {nt:Nat} {fr:Fr} {G:jb} {a:Act} {n:Nat} {pre cap:List Ce} {vs:List AV} {Q:AV->jb->Prop} (hfo:fo.ev fr=some (.c (.fn n pre cap))) (hargs:evs fr args=some vs)
 (hok:Ok P n (pre.map .c++vs++cap.map .c) G Q) (hF:FrR C nt fr a):∃cargs:Array Value,(execOp a.eval o).run P C.w=.ok (.enter n cargs) C.w/\
   ∃hl:cargs.size=(pre.map AV.c++vs++cap.map AV.c).length,∀i (hi:i<(pre.map AV.c++vs++cap.map AV.c).length),RpV C (pre.map AV.c++vs++cap.map AV.c)[i] (cargs[i]'O):=by
 obtain⟨c,hop⟩:=wfm w4;rw[hop]at w4;obtain⟨fopd,hcal,q1,q2⟩:=zi6 w4;have hfv:=z7 hF q1 hfo;obtain⟨u,hu⟩:∃u,a.eval fopd=u:=⟨_,rfl⟩;rw[hu]at hfv
 cases hfv with
 |fn _ _ _ ps cs hp hcs r1 r2=>
  obtain⟨hl,hv⟩:=jgy hF q2 hargs;obtain⟨⟨gn,g1,g2,g3⟩,-⟩:=hok;have hrun:(execOp a.eval o).run P C.w=.ok (.enter n (ps++c.args.map a.eval++cs)) C.w:=by
   have g3':¬gn.name= "runtime.NumGoroutine" :=by simpa using g3
   have g2':¬gn.body=none:=by intro e;simp[e]at g2
   simp[execOp,hop,resolve,hcal,hu,Deferred.ofValue,invoke,callFunc,g1,g3',g2']
  have hargs':∃hl:(ps++c.args.map a.eval++cs).size=(pre.map AV.c++vs++cap.map AV.c).length,∀i (hi:i<(pre.map AV.c++vs++cap.map AV.c).length),RpV C (pre.map AV.c++vs++cap.map AV.c)[i] ((ps++c.args.map a.eval++cs)[i]'O):=by
   have hsz:c.args.size=vs.length:=by simpa using hl
   refine⟨by simp;omega,λi hi=>?_⟩;by_cases c1:i<pre.length
   ·rw[List.getElem_append_left gq,List.getElem_append_left (by simpa using c1)];have e:(ps++c.args.map a.eval++cs)[i]'gq=ps[i]'O:=by
     rw[Array.getElem_append_left gq,Array.getElem_append_left O]
    rw[e,List.getElem_map];exact .c (r1 i c1)
   ·by_cases c2:i<pre.length+vs.length
    ·rw[yarq gq,List.getElem_append_right gq];have e:(ps++c.args.map a.eval++cs)[i]'gq=a.eval (c.args[i-pre.length]'O):=by
      rw[Array.getElem_append_left gq,Array.getElem_append_right O];simp[hp]
     rw[e];have:=hv (i-pre.length) gq O;simpa using this
    ·have hi':i<pre.length+(vs.length+cap.length):=by simpa using hi
     rw[List.getElem_append_right gq];have e:(ps++c.args.map a.eval++cs)[i]'gq=cs[i-(pre.length+vs.length)]'O:=by
      rw[Array.getElem_append_right gq]
      congr 1
      simp;omega
     rw[e];simp only[List.getElem_map,List.length_append,List.length_map];exact .c (r2 (i-(pre.length+vs.length)) O)
  exact⟨_,hrun,hargs'⟩
theorem ja5{PQ:Exit->Act->World->Prop}(h1:ops[i]?=some o)(h2:zp P fz nt ops o=some ⟨d,.call fo args,g⟩)
 {C:Cx} {fr:Fr} {G:jb} {a:Act} {n:Nat} {pre cap:List Ce} {vs:List AV} {Q:AV->jb->Prop} (hw:wants fr g=some true) (hfo:fo.ev fr=some (.c (.fn n pre cap))) (hargs:evs fr args=some vs)
 (hok:Ok P n (pre.map .c++vs++cap.map .c) G Q) (hF:FrR C nt fr a) (hR:Rl C G) {Kont:Act->World->Prop}
 (hk:∀D a' r G',Q r G'->Rl D G'->C.Le D->FrR D nt (putA fr d r) a'->Kont a' D.w):wpOp P ops PQ i Kont a C.w:=by
 obtain⟨w1,w2,w3,fzb,w4⟩:=j7 h2 hF hw;simp only at w3 w4;obtain⟨cargs,hrun,hargs'⟩:=zg1 w4 hfo hargs hok hF;simp only[wpOp,h1,w1,if_true];left;unfold Oper.wp;rw[hrun];simp only[Oper.upon];refine(hok.2 C _ hR hargs').mono ?_;rintro e w' ⟨D,G',r,v,rfl,rfl,hQ,hR',hx,hle⟩;have hF':FrR D nt (putA fr d r) (a.put o.dst v):=by
  rw[w3];exact(hF.mono hle).putA (λt e=>w2 t (w3.trans e)) hx
 exact hk D (a.put o.dst v) r G' hQ hR' hle hF'
theorem jg1(w4:wm P fzb o.op=some (.call fo args))
 {C:Cx} {nt:Nat} {fr:Fr} {G:jb} {a:Act} {n:Nat} {pre cap:List Ce} {vs:List AV} {Q:AV->jb->Prop} (w2:∀d,o.dst=some d->d<nt) (w3:o.dst=d) (hfo:fo.ev fr=some (.c (.fn n pre cap))) (hargs:evs fr args=some vs)
 (hok:Ok P n (pre.map .c++vs++cap.map .c) G Q) (hF:FrR C nt fr a) (hR:Rl C G):∃D a' r G',Q r G'/\Rl D G'/\FrR D nt (putA fr d r) a':=by
 obtain⟨cargs,_,hargs'⟩:=zg1 w4 hfo hargs hok hF;obtain⟨e,w',_,⟨D,G',r,v,rfl,rfl,hQ,hR',hx,hle⟩,_⟩:=hok.2 C _ hR hargs' [];refine⟨D,a.put o.dst v,r,G',hQ,hR', ?_⟩;rw[w3];exact(hF.mono hle).putA (λt e=>w2 t (w3.trans e)) hx

end Go.Proofs.YtedaadaaibofaaaGreat.Am
