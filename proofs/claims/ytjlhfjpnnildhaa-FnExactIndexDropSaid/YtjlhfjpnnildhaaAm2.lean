/- The abstract machine, part 2: its operations, and how the model's operations are turned into them. -/
import Derived.Test.YtjlhfjpnnildhaaAm1
set_option linter.unusedVariables false
set_option linter.unusedSimpArgs false
namespace Go.Proofs.Ytjlhfjpnnildhaa.Am
open Go.RowKit

inductive Opd where
  | t (i : Nat)
  | k (x : Ce)
  | ka (cs : List Ce)
  | f (n : Nat)
  deriving Inhabited

/-- Of what kind cells are that are held against each other. -/
inductive EK where
  | i | b | s | sl | pt | fn
  deriving DecidableEq, Inhabited

inductive AOp where
  | mv (x : Opd)
  | pick (c a b : Opd)
  | box (fz : Bool) (x : Opd)
  | alloc (z : List Ce)
  | build (z : List Ce) (ps : List (Nat × Nat × Opd))
  | mksl (fz : Bool) (s n : Nat) (z : List Ce) (ps : List (Nat × Opd))
  | load (agg : Bool) (s : Nat) (a : Opd)
  | store (s : Nat) (a x : Opd)
  | nilc (x : Opd)
  | bin (op : BinOp) (x y : Opd)
  | eq (neg agg : Bool) (ks : List EK) (x y : Opd)
  | un (op : UnOp) (x : Opd)
  | conv (k : IntKind) (x : Opd)
  | b2s (x : Opd)
  | mkfn (f : Nat) (pre cap : List Opd)
  | mkslice (s bytes : Nat) (z : List Ce) (l c : Opd)
  | slice (s : Nat) (x : Opd) (lo hi mx : Option Opd)
  | strsl (x : Opd) (lo hi : Option Opd)
  | faddr (off : Nat) (x : Opd)
  | fld (agg : Bool) (off s : Nat) (x : Opd)
  | iaddr (s : Nat) (x i : Opd)
  | iarr (n s : Nat) (x i : Opd)
  | idx (x i : Opd)
  | idxa (agg : Bool) (n s : Nat) (x i : Opd)
  | ext (x : Opd) (i : Nat)
  | len (str : Bool) (x : Opd)
  | app (s bytes : Nat) (x y : Opd)
  | clear (z : List Ce) (x : Opd)
  | mm (mx : Bool) (x y : Opd)
  deriving Inhabited

inductive AO where
  | op (o : AOp)
  | call (f : Opd) (args : List Opd)
  deriving Inhabited
structure AOper where
  dst : Option Nat
  op : AO
  guard : Option (Nat × Bool)
  deriving Inhabited

/-! ### Turning the model's operations into these -/
def ceOf : Value → Option Ce
  | .int k n => some (.int k n)
  | .bool b => some (.bool b)
  | .string s => some (.str s.data.toList)
  | .pointer none => some .nilp
  | .slice none 0 0 => some .nils
  | .nilFunc => some .nilf
  | .nilIface => some .any
  | _ => none
def cesOf (vs : List Value) : Option (List Ce) := vs.mapM ceOf
def opdOf : Operand → Option Opd
  | .tmp t => some (.t t)
  | .const (.agg cs) => (cesOf cs.toList).map .ka
  | .const v => (ceOf v).map .k
  | .func f => some (.f f)
  | .global _ => none
def optOpd : Option Operand → Option (Option Opd)
  | none => some none
  | some x => (opdOf x).map some
def sizeIn (P : Program) (t : TypeId) : Option Nat := (P.info? t).map (·.size)
def zeroIn (P : Program) (t : TypeId) : Option (List Ce) := ((P.info? t).bind (·.zero)).bind fun v => cesOf v.cells.toList
def aggIn (P : Program) (t : TypeId) : Option Bool :=
  match P.underlying t with
  | some (.struct _) | some (.array _ _) => some true
  | some _ => some false
  | none => none
def elemIn (P : Program) (t : TypeId) : Option TypeId :=
  match P.underlying t with
  | some (.slice e) => some e
  | _ => none
/-- A field's offset, its size, its type. -/
def fieldIn (P : Program) (t : TypeId) (i : Nat) : Option (Nat × Nat × TypeId) :=
  match P.underlying t with
  | some (.struct fs) =>
    match fs[i]? with
    | some f => (sizeIn P f.type).map fun s => (f.offset, s, f.type)
    | none => none
  | _ => none

/-- Where the parts of a struct, or of an array, lie. -/
def placeIn (P : Program) (t : TypeId) : Option (Nat → Option (Nat × Nat)) :=
  match P.underlying t with
  | some (.struct fs) => (fs.toList.mapM (fun f => (P.info? f.type).map fun i => (f.offset, i.size))).map fun l => fun i => l.toArray[i]?
  | some (.array _ e) => (sizeIn P e).map fun s => fun i => some (i * s, s)
  | _ => none
def buildIn (pl : Nat → Option (Nat × Nat)) : List (Nat × Operand) → Option (List (Nat × Nat × Opd))
  | [] => some []
  | (i, x) :: r =>
    match pl i, opdOf x, buildIn pl r with
    | some (off, s), some y, some l => some ((off, s, y) :: l)
    | _, _, _ => none
def partsIn : List (Nat × Operand) → Option (List (Nat × Opd))
  | [] => some []
  | (i, x) :: r =>
    match opdOf x, partsIn r with
    | some y, some l => some ((i, y) :: l)
    | _, _ => none

/-- The kinds of a flat struct's cells, in order. -/
def eqFlat (P : Program) : Nat → TypeId → Option (List EK)
  | 0, _ => none
  | d + 1, t =>
    match P.underlying t with
    | some (.int _) => some [.i]
    | some .string => some [.s]
    | some .bool => some [.b]
    | some (.struct fs) =>
      if P.stoodInHeld t then none else
      fs.toList.foldlM (fun ks f => if f.name != "_" && f.offset == ks.length then
        (match eqFlat P d f.type with
         | some l => if sizeIn P f.type = some l.length then some (ks ++ l) else none
         | none => none) else none) []
    | _ => none

def compOp (P : Program) (fz : Bool) (o : Op) : Option AO :=
  match o with
  | .move x | .assign x => (opdOf x).map fun x => .op (.mv x)
  | .pick c a b => do pure (.op (.pick (← opdOf c) (← opdOf a) (← opdOf b)))
  | .box _ x => do pure (.op (.box fz (← opdOf x)))
  | .alloc t => do pure (.op (.alloc (← zeroIn P t)))
  | .build t ps => do
    let z ← zeroIn P t
    let pl ← placeIn P t
    let ps ← buildIn pl ps.toList
    pure (.op (.build z ps))
  | .buildSlice t n ps => do
    let e ← elemIn P t
    let s ← sizeIn P e
    let z ← zeroIn P e
    let ps ← partsIn ps.toList
    if z.length = s ∧ 0 < s ∧ n * s ≤ 65536 then pure (.op (.mksl fz s n z ps)) else none
  | .load t a => do pure (.op (.load (← aggIn P t) (← sizeIn P t) (← opdOf a)))
  | .store t a x => do pure (.op (.store (← sizeIn P t) (← opdOf a) (← opdOf x)))
  | .nilCheck x => do pure (.op (.nilc (← opdOf x)))
  | .binOp op t x y _ =>
    if op = .eql ∨ op = .neq then
      match P.underlying t with
      | some (.int _) | some .string => do pure (.op (.bin op (← opdOf x) (← opdOf y)))
      | some .bool => do pure (.op (.eq (op == .neq) false [.b] (← opdOf x) (← opdOf y)))
      | some (.slice _) => do pure (.op (.eq (op == .neq) false [.sl] (← opdOf x) (← opdOf y)))
      | some (.pointer _) => do pure (.op (.eq (op == .neq) false [.pt] (← opdOf x) (← opdOf y)))
      | some (.func _ _ _) => do pure (.op (.eq (op == .neq) false [.fn] (← opdOf x) (← opdOf y)))
      | some (.struct _) => if P.eqGuardType P.depth t then none else do
        let ks ← eqFlat P 8 t
        pure (.op (.eq (op == .neq) true ks (← opdOf x) (← opdOf y)))
      | _ => none
    else do pure (.op (.bin op (← opdOf x) (← opdOf y)))
  | .unOp op _ x => do pure (.op (.un op (← opdOf x)))
  | .convert src dst x =>
    match P.underlying src, P.underlying dst with
    | some (.int _), some (.int k) => do pure (.op (.conv k (← opdOf x)))
    | some (.slice e), some .string =>
      match P.underlying e with
      | some (.int .u8) => do pure (.op (.b2s (← opdOf x)))
      | _ => none
    | _, _ => none
  | .makeFunc (.func f) pre cap => do pure (.op (.mkfn f (← pre.toList.mapM opdOf) (← cap.toList.mapM opdOf)))
  | .makeSlice t l c => do
    let e ← elemIn P t
    let s ← sizeIn P e
    let z ← zeroIn P e
    let i ← P.info? e
    if z.length = s ∧ 0 < s ∧ 0 < i.bytes then pure (.op (.mkslice s i.bytes z (← opdOf l) (← opdOf c))) else none
  | .slice t x lo hi mx =>
    match P.underlying t with
    | some .string => match mx with
      | none => do pure (.op (.strsl (← opdOf x) (← optOpd lo) (← optOpd hi)))
      | some _ => none
    | some (.slice e) => do
      let s ← sizeIn P e
      if 0 < s ∧ (mx.isNone ∨ hi.isSome) then pure (.op (.slice s (← opdOf x) (← optOpd lo) (← optOpd hi) (← optOpd mx))) else none
    | _ => none
  | .fieldAddr t x i => do
    let (off, s, _) ← fieldIn P t i
    if 0 < s then pure (.op (.faddr off (← opdOf x))) else none
  | .field t x i => do
    let (off, s, ft) ← fieldIn P t i
    pure (.op (.fld (← aggIn P ft) off s (← opdOf x)))
  | .indexAddr t x i =>
    match P.underlying t with
    | some (.slice e) => do
      let s ← sizeIn P e
      if 0 < s then pure (.op (.iaddr s (← opdOf x) (← opdOf i))) else none
    | some (.array n e) => do pure (.op (.iarr n (← sizeIn P e) (← opdOf x) (← opdOf i)))
    | _ => none
  | .index t x i =>
    match P.underlying t with
    | some .string => do pure (.op (.idx (← opdOf x) (← opdOf i)))
    | some (.array n e) => do pure (.op (.idxa (← aggIn P e) n (← sizeIn P e) (← opdOf x) (← opdOf i)))
    | _ => none
  | .extract x i => do pure (.op (.ext (← opdOf x) i))
  | .call c =>
    match c.callee with
    | .value f => do pure (.call (← opdOf f) (← c.args.toList.mapM opdOf))
    | .builtin .len =>
      match c.args.toList, c.argTypes.toList with
      | [x], [t] =>
        match P.underlying t with
        | some .string => do pure (.op (.len true (← opdOf x)))
        | some (.slice _) => do pure (.op (.len false (← opdOf x)))
        | _ => none
      | _, _ => none
    | .builtin .append =>
      match c.args.toList, c.argTypes.toList with
      | [x, y], [t, u] =>
        match P.underlying t, P.underlying u with
        | some (.slice e), some (.slice _) => do
          let s ← sizeIn P e
          let i ← P.info? e
          let z ← zeroIn P e
          if 0 < s ∧ 0 < i.bytes ∧ z.length = s then pure (.op (.app s i.bytes (← opdOf x) (← opdOf y))) else none
        | some (.slice e), some .string => do
          let s ← sizeIn P e
          let i ← P.info? e
          let z ← zeroIn P e
          if s = 1 ∧ 0 < i.bytes ∧ z.length = s then pure (.op (.app s i.bytes (← opdOf x) (← opdOf y))) else none
        | _, _ => none
      | _, _ => none
    | .builtin .clear =>
      match c.args.toList, c.argTypes.toList with
      | [x], [t] =>
        match P.underlying t with
        | some (.slice e) => do pure (.op (.clear (← zeroIn P e) (← opdOf x)))
        | _ => none
      | _, _ => none
    | .builtin .max =>
      match c.args.toList with
      | [x, y] => do pure (.op (.mm true (← opdOf x) (← opdOf y)))
      | _ => none
    | .builtin .min =>
      match c.args.toList with
      | [x, y] => do pure (.op (.mm false (← opdOf x) (← opdOf y)))
      | _ => none
    | _ => none
  | _ => none

/-! ### What the operations do -/
def Opd.ev (fr : Fr) : Opd → Option AV
  | .t i => look fr i
  | .k x => some (.c x)
  | .ka cs => some (.agg cs)
  | .f n => some (.c (.fn n [] []))
def AV.cells : AV → Option (List Ce)
  | .c x => some [x]
  | .agg cs => some cs
  | _ => none
def splice {α : Type} (l : List α) (k : Nat) (x : List α) : List α := l.take k ++ x ++ l.drop (k + x.length)

def fillA (fr : Fr) (z : List Ce) : List (Nat × Nat × Opd) → Option (List Ce)
  | [] => some z
  | (off, s, x) :: r =>
    match (x.ev fr).bind AV.cells with
    | some cs => if cs.length = s ∧ off + s ≤ z.length then fillA fr (splice z off cs) r else none
    | none => none
def fillS (fr : Fr) (s : Nat) (es : List (List Ce)) : List (Nat × Opd) → Option (List (List Ce))
  | [] => some es
  | (i, x) :: r =>
    match (x.ev fr).bind AV.cells with
    | some cs => if cs.length = s ∧ i < es.length then fillS fr s (es.set i cs) r else none
    | none => none
def evs (fr : Fr) : List Opd → Option (List AV)
  | [] => some []
  | x :: r => match x.ev fr, evs fr r with
    | some v, some vs => some (v :: vs)
    | _, _ => none
def evc (fr : Fr) : List Opd → Option (List Ce)
  | [] => some []
  | x :: r => match x.ev fr, evc fr r with
    | some (.c v), some vs => some (v :: vs)
    | _, _ => none

/-- Are two cells of a kind the same? -/
def eqK : EK → Ce → Ce → Option Bool
  | .i, .int k a, .int k' b => if k = k' then some (a == b) else none
  | .b, .bool a, .bool b => some (a == b)
  | .s, .str a, .str b => some (a == b)
  | .sl, .nils, .nils => some true
  | .sl, .fz (_ :: _), .nils => some false
  | .sl, .nils, .fz (_ :: _) => some false
  | .sl, .sl _ _ _ (_ + 1) _, .nils => some false
  | .pt, .nilp, .nilp => some true
  | .pt, .fp _, .nilp => some false
  | .pt, .ptr .., .nilp => some false
  | .fn, .nilf, .nilf => some true
  | .fn, .fn .., .nilf => some false
  | _, _, _ => none
def eqKs : List EK → List Ce → List Ce → Option Bool
  | [], [], [] => some true
  | k :: ks, a :: x, b :: y => match eqK k a b, eqKs ks x y with
    | some p, some q => some (p && q)
    | _, _ => none
  | _, _, _ => none
def bytesLt : List UInt8 → List UInt8 → Bool := Op.bytesLess
def binA (op : BinOp) : AV → AV → Option AV
  | .c (.int k a), .c (.int k' b) =>
    match op with
    | .shl => if 0 ≤ b then some (.c (.int k (k.wrap (a * 2 ^ (min b.toNat k.bits))))) else none
    | .shr => if 0 ≤ b then some (.c (.int k (a.fdiv (2 ^ (min b.toNat k.bits))))) else none
    | .add => if k = k' then some (.c (.int k (k.wrap (a + b)))) else none
    | .sub => if k = k' then some (.c (.int k (k.wrap (a - b)))) else none
    | .mul => if k = k' then some (.c (.int k (k.wrap (a * b)))) else none
    | .quo => if k = k' ∧ b ≠ 0 then some (.c (.int k (k.wrap (a.tdiv b)))) else none
    | .rem => if k = k' ∧ b ≠ 0 then some (.c (.int k (a.tmod b))) else none
    | .eql => if k = k' then some (.c (.bool (a == b))) else none
    | .neq => if k = k' then some (.c (.bool (a != b))) else none
    | .lss => if k = k' then some (.c (.bool (a < b))) else none
    | .leq => if k = k' then some (.c (.bool (a ≤ b))) else none
    | .gtr => if k = k' then some (.c (.bool (a > b))) else none
    | .geq => if k = k' then some (.c (.bool (a ≥ b))) else none
    | .or => if k = k' then some (.c (.int k (k.wrap (BitVec.ofInt k.bits a ||| BitVec.ofInt k.bits b).toNat))) else none
    | .and => if k = k' then some (.c (.int k (k.wrap (BitVec.ofInt k.bits a &&& BitVec.ofInt k.bits b).toNat))) else none
    | _ => none
  | .c (.str a), .c (.str b) =>
    match op with
    | .add => if a.length + b.length ≤ 9223372036854775807 then some (.c (.str (a ++ b))) else none
    | .eql => some (.c (.bool (a == b)))
    | .neq => some (.c (.bool (a != b)))
    | .lss => some (.c (.bool (bytesLt a b)))
    | .leq => some (.c (.bool (bytesLt a b || a == b)))
    | .gtr => some (.c (.bool (!(bytesLt a b || a == b))))
    | .geq => some (.c (.bool (!(bytesLt a b))))
    | _ => none
  | _, _ => none
def unA (op : UnOp) : AV → Option AV
  | .c (.bool b) => match op with | .not => some (.c (.bool (!b))) | _ => none
  | .c (.int k n) => match op with | .neg => some (.c (.int k (k.wrap (0 - n)))) | _ => none
  | _ => none

/-- The cells behind a pointer. -/
def Store.at_ (σ : Store) : Ce → Option (List Ce)
  | .fp cs => some cs
  | .ptr id v i j =>
    match σ.get id with
    | some (v', es) => if v' = v then (es[i]?).bind fun e => if j ≤ e.length then some (e.drop j) else none else none
    | none => none
  | _ => none
/-- The elements of a slice. -/
def Store.els (σ : Store) : Ce → Option (List (List Ce))
  | .fz es => some es
  | .nils | .emp => some []
  | .sl id v i n _ =>
    match σ.get id with
    | some (v', es) => if v' = v ∧ i + n ≤ es.length then some ((es.drop i).take n) else none
    | none => none
  | _ => none
def takeA (agg : Bool) (s : Nat) (cs : List Ce) : Option AV :=
  if agg then (if s ≤ cs.length then some (.agg (cs.take s)) else none) else match cs with | x :: _ => some (.c x) | [] => none
def bound (d : Nat) : Option AV → Option Nat
  | none => some d
  | some (.c (.int _ n)) => if 0 ≤ n then some n.toNat else none
  | some _ => none
def evo (fr : Fr) : Option Opd → Option (Option AV)
  | none => some none
  | some x => (x.ev fr).map some
def sliceA (σ : Store) (s : Nat) (x : Ce) (lo hi mx : Option AV) : Option Ce :=
  match x with
  | .fz es =>
    match bound 0 lo, bound es.length hi with
    | some l, some h => if l ≤ h ∧ h ≤ es.length ∧ (∀ e ∈ es, e.length = s) then
        (match mx with
         | none => some (.fz ((es.take h).drop l))
         | some m => match bound 0 (some m) with
           | some m => if h ≤ m ∧ m ≤ es.length then (if m = l then some .emp else some (.fz ((es.take h).drop l))) else none
           | none => none) else none
    | _, _ => none
  | .sl id v i n c =>
    match bound 0 lo, bound n hi, bound c mx with
    | some l, some h, some m =>
      (match σ.get id with
       | some (v', es) => if v' = v ∧ (∀ e ∈ es, e.length = s) ∧ l ≤ h ∧ h ≤ m ∧ m ≤ c then some (.sl id v (i + l) (h - l) (m - l)) else none
       | none => none)
    | _, _, _ => none
  | .nils =>
    match bound 0 lo, bound 0 hi, bound 0 mx with
    | some 0, some 0, some 0 => some .nils
    | _, _, _ => none
  | .emp =>
    match bound 0 lo, bound 0 hi, bound 0 mx with
    | some 0, some 0, some 0 => some .emp
    | _, _, _ => none
  | _ => none
def iaddrA (σ : Store) (s : Nat) (x : Ce) (n : Int) : Option Ce :=
  if 0 ≤ n then
    match x with
    | .fz es => match es[n.toNat]? with
      | some e => if e.length = s then some (.fp e) else none
      | none => none
    | .sl id v i m _ => if n.toNat < m then
        (match σ.get id with
         | some (v', es) => if v' = v then (match es[i + n.toNat]? with
           | some e => if e.length = s then some (.ptr id v (i + n.toNat) 0) else none
           | none => none) else none
         | none => none) else none
    | _ => none
  else none
def appA (σ : Store) (s bytes : Nat) (x : Ce) (ys : List (List Ce)) : Option (Ce × Store) :=
  if ∀ e ∈ ys, e.length = s then
    match x with
    | .nils | .emp =>
      if ys.length * bytes ≤ 140737488355328 then some (.sl σ.next 0 0 ys.length ys.length, σ.new (0, ys)) else none
    | .sl id v i n c =>
      match σ.get id with
      | some (v', es) =>
        if v' = v ∧ i + c ≤ es.length ∧ n ≤ c ∧ (∀ e ∈ es, e.length = s) then
          if n + ys.length ≤ c then some (.sl id v i (n + ys.length) c, σ.put id (v, splice es (i + n) ys))
          else if (n + ys.length) * bytes ≤ 140737488355328 then
            some (.sl id (v + 1) 0 (n + ys.length) (n + ys.length), σ.put id (v + 1, (es.drop i).take n ++ ys))
          else none
        else none
      | none => none
    | _ => none
  else none
def b2sA : List (List Ce) → Option (List UInt8)
  | [] => some []
  | [.int .u8 n] :: r => (b2sA r).map fun l => UInt8.ofNat n.toNat :: l
  | _ => none

def aop (o : AOp) (fr : Fr) (σ : Store) : Option (AV × Store) :=
  match o with
  | .mv x => (x.ev fr).map fun v => (v, σ)
  | .pick c a b =>
    match c.ev fr with
    | some (.c (.bool t)) => (if t then a.ev fr else b.ev fr).map fun v => (v, σ)
    | _ => none
  | .box fz x =>
    match (x.ev fr).bind AV.cells with
    | some cs => if fz then some (.c (.fp cs), σ) else some (.c (.ptr σ.next 0 0 0), σ.new (0, [cs]))
    | none => none
  | .alloc z => some (.c (.ptr σ.next 0 0 0), σ.new (0, [z]))
  | .build z ps => (fillA fr z ps).map fun cs => (.agg cs, σ)
  | .mksl fz s n z ps =>
    match fillS fr s (List.replicate n z) ps with
    | some es => if fz then some (.c (.fz es), σ) else some (.c (.sl σ.next 0 0 n n), σ.new (0, es))
    | none => none
  | .load agg s a =>
    match a.ev fr with
    | some (.c p) => ((σ.at_ p).bind (takeA agg s)).map fun v => (v, σ)
    | _ => none
  | .store s a x =>
    match a.ev fr, (x.ev fr).bind AV.cells with
    | some (.c (.ptr id v i j)), some cs =>
      match σ.get id with
      | some (v', es) => if v' = v then
          (match es[i]? with
           | some e => if cs.length = s ∧ j + s ≤ e.length then some (.un, σ.put id (v, es.set i (splice e j cs))) else none
           | none => none) else none
      | none => none
    | _, _ => none
  | .nilc x =>
    match x.ev fr with
    | some (.c (.fp cs)) => some (.c (.fp cs), σ)
    | some (.c (.ptr id v i j)) => some (.c (.ptr id v i j), σ)
    | some (.c (.fn f a b)) => some (.c (.fn f a b), σ)
    | _ => none
  | .bin op x y =>
    match x.ev fr, y.ev fr with
    | some a, some b => (binA op a b).map fun v => (v, σ)
    | _, _ => none
  | .eq neg agg ks x y =>
    match x.ev fr, y.ev fr with
    | some (.agg cs), some (.agg ds) => if agg then (eqKs ks cs ds).map fun t => (.c (.bool (t != neg)), σ) else none
    | some (.c c), some (.c d) => if agg then none else (eqKs ks [c] [d]).map fun t => (.c (.bool (t != neg)), σ)
    | _, _ => none
  | .un op x => ((x.ev fr).bind (unA op)).map fun v => (v, σ)
  | .conv k x =>
    match x.ev fr with
    | some (.c (.int _ n)) => some (.c (.int k (k.wrap n)), σ)
    | _ => none
  | .b2s x =>
    match x.ev fr with
    | some (.c y) => ((σ.els y).bind b2sA).map fun l => (.c (.str l), σ)
    | _ => none
  | .mkfn f pre cap =>
    match evc fr pre, evc fr cap with
    | some p, some c => some (.c (.fn f p c), σ)
    | _, _ => none
  | .mkslice s bytes z l c =>
    match l.ev fr, c.ev fr with
    | some (.c (.int .i64 l)), some (.c (.int .i64 c)) =>
      if 0 ≤ l ∧ l ≤ c ∧ bytes * c ≤ 140737488355328 then some (.c (.sl σ.next 0 0 l.toNat c.toNat), σ.new (0, List.replicate c.toNat z)) else none
    | _, _ => none
  | .slice s x lo hi mx =>
    match x.ev fr, evo fr lo, evo fr hi, evo fr mx with
    | some (.c x), some lo, some hi, some mx => (sliceA σ s x lo hi mx).map fun y => (.c y, σ)
    | _, _, _, _ => none
  | .strsl x lo hi =>
    match x.ev fr, evo fr lo, evo fr hi with
    | some (.c (.str s)), some lo, some hi =>
      (match bound 0 lo, bound s.length hi with
       | some l, some h => if l ≤ h ∧ h ≤ s.length then some (.c (.str ((s.take h).drop l)), σ) else none
       | _, _ => none)
    | _, _, _ => none
  | .faddr off x =>
    match x.ev fr with
    | some (.c (.fp cs)) => if off ≤ cs.length then some (.c (.fp (cs.drop off)), σ) else none
    | some (.c (.ptr id v i j)) => some (.c (.ptr id v i (j + off)), σ)
    | _ => none
  | .fld agg off s x =>
    match x.ev fr with
    | some (.agg cs) => if off ≤ cs.length then (takeA agg s (cs.drop off)).map fun v => (v, σ) else none
    | _ => none
  | .iaddr s x i =>
    match x.ev fr, i.ev fr with
    | some (.c x), some (.c (.int _ n)) => (iaddrA σ s x n).map fun y => (.c y, σ)
    | _, _ => none
  | .iarr n s x i =>
    match x.ev fr, i.ev fr with
    | some (.c (.fp cs)), some (.c (.int _ j)) => if 0 ≤ j ∧ j < n ∧ j.toNat * s ≤ cs.length then some (.c (.fp (cs.drop (j.toNat * s))), σ) else none
    | some (.c (.ptr id v i k)), some (.c (.int _ j)) => if 0 ≤ j ∧ j < n then some (.c (.ptr id v i (k + j.toNat * s)), σ) else none
    | _, _ => none
  | .idx x i =>
    match x.ev fr, i.ev fr with
    | some (.c (.str s)), some (.c (.int _ n)) => if 0 ≤ n then (s[n.toNat]?).map fun b => (.c (.int .u8 b.toNat), σ) else none
    | _, _ => none
  | .idxa agg n s x i =>
    match x.ev fr, i.ev fr with
    | some (.agg cs), some (.c (.int _ j)) => if 0 ≤ j ∧ j < n ∧ j.toNat * s ≤ cs.length then (takeA agg s (cs.drop (j.toNat * s))).map fun v => (v, σ) else none
    | _, _ => none
  | .ext x i =>
    match x.ev fr with
    | some (.tup vs) => (vs[i]?).map fun v => (v, σ)
    | _ => none
  | .len str x =>
    match x.ev fr with
    | some (.c (.str s)) => if str then some (.c (.int .i64 s.length), σ) else none
    | some (.c (.fz es)) => if str then none else some (.c (.int .i64 es.length), σ)
    | some (.c (.sl _ _ _ n _)) => if str then none else some (.c (.int .i64 n), σ)
    | some (.c .nils) | some (.c .emp) => if str then none else some (.c (.int .i64 0), σ)
    | _ => none
  | .app s bytes x y =>
    match x.ev fr, y.ev fr with
    | some (.c x), some (.c (.str l)) => if s = 1 then (appA σ s bytes x (l.map fun b => [.int .u8 b.toNat])).map fun r => (.c r.1, r.2) else none
    | some (.c x), some (.c y) => ((σ.els y).bind (appA σ s bytes x)).map fun r => (.c r.1, r.2)
    | _, _ => none
  | .clear z x =>
    match x.ev fr with
    | some (.c (.sl id v i n c)) =>
      match σ.get id with
      | some (v', es) => if v' = v ∧ i + n ≤ es.length ∧ (∀ e ∈ es, e.length = z.length) then some (.un, σ.put id (v, splice es i (List.replicate n z))) else none
      | none => none
    | some (.c .nils) | some (.c .emp) => some (.un, σ)
    | _ => none
  | .mm mx x y =>
    match x.ev fr, y.ev fr with
    | some (.c (.int k a)), some (.c (.int k' b)) => some (.c (.int k (if mx then (if b > a then b else a) else (if b < a then b else a))), σ)
    | _, _ => none

end Go.Proofs.Ytjlhfjpnnildhaa.Am
